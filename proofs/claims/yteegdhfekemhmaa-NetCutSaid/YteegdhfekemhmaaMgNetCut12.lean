/- Texts of this claim, several in one: Rl11, SB4, SB5, Rl12, Rl13, Rl14, Rl15, Rl16, SB6, Rl17, Rl18, Rl19, Rl20, Rl21, SN0, Rl22, Rl23, SB7, SN1. -/
import Derived.Test.YteegdhfekemhmaaMgNetCut11
namespace Go.Proofs.Yteegdhfekemhmaa
open Go.RowKit Sim Go Sym
set_option maxRecDepth 100000
set_option linter.unusedVariables false
set_option linter.unusedSimpArgs false
variable {base : Nat}
noncomputable def lEqe : {F : LF // lowerF Try.prog 108 = some F} := ⟨_, rfl⟩
def Ent.eqv (e f : Ent) : Bool := decide (e.ix = f.ix) && (decide (e.tm = f.tm) && (decide (e.kd = f.kd) && eqL e.d f.d))
theorem bytes_of {l : List Nat} (h : okB l) : bytesX (byP l) = some l := bytesX_map h.2
theorem EqEntry_spec (e f : Ent) (he : okB e.d) (hf : okB f.d) : CallS Try.prog base 108 [e.v, f.v] ⟨[], 0⟩ (.c (.p (.bs (e.eqv f)))) ⟨[], 0⟩ := by
  refine CallS.of noNG lEqe.2 rfl (M.start (M.go rfl ?_))
  refine M.dec rfl (fun h1 => ?_) (fun h1 => ?_)
  · refine M.go rfl ?_
    refine M.dec rfl (fun h2 => ?_) (fun h2 => ?_)
    · refine M.go rfl ?_
      refine M.dec rfl (fun h3 => ?_) (fun h3 => ?_)
      · refine M.go rfl ?_
        refine M.op rfl (SOp.cvBS rfl (bytes_of he)) ?_
        refine M.go rfl ?_
        refine M.op rfl (SOp.cvBS rfl (bytes_of hf)) ?_
        refine M.go rfl ?_
        refine M.ret (M.go rfl (M.done (finQ.ret [] rfl rfl rfl (Wk.b1 ?_) (by repeat' (first | exact True.intro | refine ⟨⟨_, _, _, rfl, rfl, rfl, WkO.rfl⟩, ?_⟩ | refine HeapOK.acc rfl rfl ?_ | refine HeapOK.es rfl rfl ?_)))))
        simp [Ent.eqv, h1, h2, h3]
      · refine M.go rfl ?_
        refine M.ret (M.go rfl (M.done (finQ.ret [] rfl rfl rfl (Wk.of ?_) (by repeat' (first | exact True.intro | refine ⟨⟨_, _, _, rfl, rfl, rfl, WkO.rfl⟩, ?_⟩ | refine HeapOK.acc rfl rfl ?_ | refine HeapOK.es rfl rfl ?_)))))
        rw [Ent.eqv, decide_eq_false h3]; simp [XV.sv, XC.sc, PC.sc]
    · refine M.go rfl ?_
      refine M.ret (M.go rfl (M.done (finQ.ret [] rfl rfl rfl (Wk.of ?_) (by repeat' (first | exact True.intro | refine ⟨⟨_, _, _, rfl, rfl, rfl, WkO.rfl⟩, ?_⟩ | refine HeapOK.acc rfl rfl ?_ | refine HeapOK.es rfl rfl ?_)))))
      rw [Ent.eqv, decide_eq_false h2]; simp [XV.sv, XC.sc, PC.sc]
  · refine M.go rfl ?_
    refine M.ret (M.go rfl (M.done (finQ.ret [] rfl rfl rfl (Wk.of ?_) (by repeat' (first | exact True.intro | refine ⟨⟨_, _, _, rfl, rfl, rfl, WkO.rfl⟩, ?_⟩ | refine HeapOK.acc rfl rfl ?_ | refine HeapOK.es rfl rfl ?_)))))
    rw [Ent.eqv, decide_eq_false h1]; simp [XV.sv, XC.sc, PC.sc]
noncomputable def lEqs : {F : LF // lowerF Try.prog 45 = some F} := ⟨_, rfl⟩
def Snp.eqv (s t : Snp) : Bool := decide (s.ix = t.ix) && (decide (s.tm = t.tm) && (decide (s.cf = t.cf) && eqL s.d t.d))
theorem EqSnap_spec (s t : Snp) (hs : s.ok) (ht : t.ok) : CallS Try.prog base 45 [s.v, t.v] ⟨[], 0⟩ (.c (.p (.bs (s.eqv t)))) ⟨[], 0⟩ := by
  refine CallS.of noNG lEqs.2 rfl (M.start (M.go rfl ?_))
  refine M.dec rfl (fun h1 => ?_) (fun h1 => ?_)
  · refine M.go rfl ?_
    refine M.dec rfl (fun h2 => ?_) (fun h2 => ?_)
    · refine M.go rfl ?_
      refine M.use0 rfl (EqInts_spec s.cz t.cz s.cc t.cc s.cf t.cf hs.cf.1) rfl rfl rfl ?_
      refine M.go rfl ?_
      refine M.dec rfl (fun h3 => ?_) (fun h3 => ?_)
      · refine M.go rfl ?_
        refine M.op rfl (SOp.cvBS rfl (bytes_of hs.d)) ?_
        refine M.go rfl ?_
        refine M.op rfl (SOp.cvBS rfl (bytes_of ht.d)) ?_
        refine M.go rfl ?_
        refine M.ret (M.go rfl (M.done (finQ.ret [] rfl rfl rfl (Wk.b1 ?_) (by repeat' (first | exact True.intro | refine ⟨⟨_, _, _, rfl, rfl, rfl, WkO.rfl⟩, ?_⟩ | refine HeapOK.acc rfl rfl ?_ | refine HeapOK.es rfl rfl ?_)))))
        simp [Snp.eqv, h1, h2, h3]
      · refine M.go rfl ?_
        refine M.ret (M.go rfl (M.done (finQ.ret [] rfl rfl rfl (Wk.of ?_) (by repeat' (first | exact True.intro | refine ⟨⟨_, _, _, rfl, rfl, rfl, WkO.rfl⟩, ?_⟩ | refine HeapOK.acc rfl rfl ?_ | refine HeapOK.es rfl rfl ?_)))))
        rw [Snp.eqv, decide_eq_false h3]; simp [XV.sv, XC.sc, PC.sc]
    · refine M.go rfl ?_
      refine M.ret (M.go rfl (M.done (finQ.ret [] rfl rfl rfl (Wk.of ?_) (by repeat' (first | exact True.intro | refine ⟨⟨_, _, _, rfl, rfl, rfl, WkO.rfl⟩, ?_⟩ | refine HeapOK.acc rfl rfl ?_ | refine HeapOK.es rfl rfl ?_)))))
      rw [Snp.eqv, decide_eq_false h2]; simp [XV.sv, XC.sc, PC.sc]
  · refine M.go rfl ?_
    refine M.ret (M.go rfl (M.done (finQ.ret [] rfl rfl rfl (Wk.of ?_) (by repeat' (first | exact True.intro | refine ⟨⟨_, _, _, rfl, rfl, rfl, WkO.rfl⟩, ?_⟩ | refine HeapOK.acc rfl rfl ?_ | refine HeapOK.es rfl rfl ?_)))))
    rw [Snp.eqv, decide_eq_false h1]; simp [XV.sv, XC.sc, PC.sc]
noncomputable def lEqs4 : {F : LF // lowerF Try.prog 110 = some F} := ⟨_, rfl⟩
def eqvL : List Ent → List Ent → Bool
  | [], [] => true
  | e :: l, f :: r => e.eqv f && eqvL l r
  | _, _ => false
theorem eqvL_len : ∀ {l r : List Ent}, ¬ l.length = r.length → eqvL l r = false
  | [], [], h => absurd rfl h
  | [], _ :: _, _ => rfl
  | _ :: _, [], _ => rfl
  | e :: l, f :: r, h => by rw [eqvL, eqvL_len (by simpa using h), Bool.and_false]
theorem eqs_loop (za zb : Bool) (ca cb : Option Nat) (a b : List Ent) (hl : a.length ≤ 100000000000) (ha : ∀ e ∈ a, e.ok) (hb : ∀ e ∈ b, e.ok) (Q : QX) :
    ∀ (ra rb pa pb : List Ent), a = pa ++ ra → b = pb ++ rb → pa.length = pb.length → ra.length = rb.length → (eqvL ra rb = true → Q (.exit 0) [] ⟨[], 0⟩) → (eqvL ra rb = false → Q .ret [(4, .c (.p (.bool false)))] ⟨[], 0⟩) →
      XH Try.prog base lEqs4.1.n 0 (lEqs4.1.c.lp 0) [(0, .c (.p (.tz za 4 (entP a) ca))), (1, .c (.p (.tz zb 4 (entP b) cb))), (5, .c (.p (.int .i64 pa.length)))] ⟨[], 0⟩ Q := by
  intro ra
  induction ra with
  | nil =>
    intro rb pa pb h1 h2 h3 h4 hq hr
    refine M.round (M.go rfl ?_)
    have h5 : (entP a).length = pa.length := by rw [h1, entP_len]; simp
    refine M.cond rfl (fun hc => ?_) (fun hc => ?_)
    · rw [h5] at hc; omega
    · refine M.ren [] ?_ trivial rfl (by repeat' (first | exact True.intro | refine ⟨⟨_, _, rfl, rfl, Wk.rfl⟩, ?_⟩ | refine ⟨⟨_, _, accV_ren rfl, rfl, Wk.rfl⟩, ?_⟩ | refine ⟨⟨_, _, accV_ren rfl, rfl, Wk.acc0⟩, ?_⟩ | refine ⟨⟨_, _, rfl, rfl, Wk.uncap⟩, ?_⟩ | refine ⟨⟨_, _, rfl, rfl, Wk.nil⟩, ?_⟩)) (by repeat' (first | exact True.intro | refine ⟨⟨_, _, _, rfl, rfl, rfl, WkO.rfl⟩, ?_⟩ | refine HeapOK.acc rfl rfl ?_ | refine HeapOK.es rfl rfl ?_)) (e' := []) (h' := ⟨[], 0⟩)
      exact M.exit (M.go rfl (M.done (hq (by cases rb <;> simp_all [eqvL]))))
  | cons x ra ih =>
    intro rb pa pb h1 h2 h3 h4 hq hr
    cases rb with
    | nil => simp at h4
    | cons y rb =>
      refine M.round (M.go rfl ?_)
      have h5 : (entP a).length = pa.length + (ra.length + 1) := by rw [h1, entP_len]; simp
      have hw : IntKind.i64.wrap ((pa.length : Int) + 1) = ((pa ++ [x]).length : Int) := by rw [entP_len] at h5; rw [wr64 (by omega) (by omega)]; simp
      have hu : (entP a)[((pa.length : Int)).toNat]? = some x.pc := by rw [h1]; exact at_app _ _ _ _
      have hv : (entP b)[((pa.length : Int)).toNat]? = some y.pc := by rw [h2, h3]; exact at_app _ _ _ _
      have hx : x.ok := ha x (by rw [h1]; simp)
      have hy : y.ok := hb y (by rw [h2]; simp)
      refine M.cond rfl (fun hc => ?_) (fun hc => ?_)
      · refine M.go rfl (M.regD (MD.go rfl ?_))
        refine MD.op trivial (SOp.ia rfl rfl (by omega) hu) ?_
        refine MD.op trivial (SOp.ldne rfl hu rfl rfl rfl) (MD.go rfl ?_)
        refine MD.op trivial (SOp.ia rfl rfl (by omega) hv) ?_
        refine MD.op trivial (SOp.ldne rfl hv rfl rfl rfl) (MD.go rfl ?_)
        refine MD.use0 trivial (EqEntry_spec x y hx.d hy.d) rfl rfl rfl (MD.go rfl (MD.nil mixed (Fnl.nodup rfl) (M.go rfl ?_)))
        refine M.condB rfl (fun hxy => ?_) (fun hxy => ?_)
        · refine M.go rfl ?_
          refine M.ren [] ?_ trivial rfl (by repeat' (first | exact True.intro | refine ⟨⟨_, _, rfl, rfl, Wk.rfl⟩, ?_⟩ | refine ⟨⟨_, _, accV_ren rfl, rfl, Wk.rfl⟩, ?_⟩ | refine ⟨⟨_, _, accV_ren rfl, rfl, Wk.acc0⟩, ?_⟩ | refine ⟨⟨_, _, rfl, rfl, Wk.uncap⟩, ?_⟩ | refine ⟨⟨_, _, rfl, rfl, Wk.nil⟩, ?_⟩)) (by repeat' (first | exact True.intro | refine ⟨⟨_, _, _, rfl, rfl, rfl, WkO.rfl⟩, ?_⟩ | refine HeapOK.acc rfl rfl ?_ | refine HeapOK.es rfl rfl ?_)) (e' := [(4, .c (.p (.bool false)))]) (h' := ⟨[], 0⟩)
          exact M.ret (M.go rfl (M.done (hr (by rw [eqvL]; rw [Bool.not_eq_true'] at hxy; rw [hxy]; rfl))))
        · refine M.go rfl ?_
          rw [hw]
          have hxy' : x.eqv y = true := by simpa using hxy
          have e0 : eqvL (x :: ra) (y :: rb) = eqvL ra rb := by rw [eqvL, hxy', Bool.true_and]
          rw [e0] at hq hr
          exact M.again (XH.ren [] (ih rb (pa ++ [x]) (pb ++ [y]) (by rw [h1]; simp) (by rw [h2]; simp) (by simp [h3]) (by simpa using h4) hq hr) rfl (by repeat' (first | exact True.intro | refine ⟨⟨_, _, rfl, rfl, Wk.rfl⟩, ?_⟩ | refine ⟨⟨_, _, accV_ren rfl, rfl, Wk.rfl⟩, ?_⟩ | refine ⟨⟨_, _, accV_ren rfl, rfl, Wk.acc0⟩, ?_⟩ | refine ⟨⟨_, _, rfl, rfl, Wk.uncap⟩, ?_⟩ | refine ⟨⟨_, _, rfl, rfl, Wk.nil⟩, ?_⟩)) (by repeat' (first | exact True.intro | refine ⟨⟨_, _, _, rfl, rfl, rfl, WkO.rfl⟩, ?_⟩ | refine HeapOK.acc rfl rfl ?_ | refine HeapOK.es rfl rfl ?_)))
      · rw [h5] at hc; omega
theorem EqEntries_spec (za zb : Bool) (ca cb : Option Nat) (a b : List Ent) (hl : a.length ≤ 100000000000) (ha : ∀ e ∈ a, e.ok) (hb : ∀ e ∈ b, e.ok) : CallS Try.prog base 110 [.c (.p (.tz za 4 (entP a) ca)), .c (.p (.tz zb 4 (entP b) cb))] ⟨[], 0⟩ (.c (.p (.bs (eqvL a b)))) ⟨[], 0⟩ := by
  refine CallS.of noNG lEqs4.2 rfl (M.start (M.go rfl ?_))
  refine M.condN rfl (fun h1 => ?_) (fun h1 => ?_)
  · refine M.go rfl ?_
    rw [eqvL_len (fun h => h1 (by rw [entP_len, entP_len, h]))]
    exact M.ret (M.go rfl (M.done (finQ.ret [] rfl rfl rfl (by first | exact Wk.rfl | exact Wk.uncap | exact Wk.nil | exact Wk.b1 rfl | exact Wk.t2 Wk.rfl (Wk.b1 rfl)) (by repeat' (first | exact True.intro | refine ⟨⟨_, _, _, rfl, rfl, rfl, WkO.rfl⟩, ?_⟩ | refine HeapOK.acc rfl rfl ?_ | refine HeapOK.es rfl rfl ?_)))))
  · refine M.go rfl ?_
    have h2 : a.length = b.length := by rw [entP_len, entP_len] at h1; omega
    refine M.loop (XH.ren [] (eqs_loop za zb ca cb a b hl ha hb _ a b [] [] rfl rfl rfl h2 (fun h => ?_) (fun h => ?_)) rfl (by repeat' (first | exact True.intro | refine ⟨⟨_, _, rfl, rfl, Wk.rfl⟩, ?_⟩ | refine ⟨⟨_, _, accV_ren rfl, rfl, Wk.rfl⟩, ?_⟩ | refine ⟨⟨_, _, accV_ren rfl, rfl, Wk.acc0⟩, ?_⟩ | refine ⟨⟨_, _, rfl, rfl, Wk.uncap⟩, ?_⟩ | refine ⟨⟨_, _, rfl, rfl, Wk.nil⟩, ?_⟩)) (by repeat' (first | exact True.intro | refine ⟨⟨_, _, _, rfl, rfl, rfl, WkO.rfl⟩, ?_⟩ | refine HeapOK.acc rfl rfl ?_ | refine HeapOK.es rfl rfl ?_)))
    · refine M.q (M.go rfl ?_)
      rw [h]
      exact M.ret (M.go rfl (M.done (finQ.ret [] rfl rfl rfl (by first | exact Wk.rfl | exact Wk.uncap | exact Wk.nil | exact Wk.b1 rfl | exact Wk.t2 Wk.rfl (Wk.b1 rfl)) (by repeat' (first | exact True.intro | refine ⟨⟨_, _, _, rfl, rfl, rfl, WkO.rfl⟩, ?_⟩ | refine HeapOK.acc rfl rfl ?_ | refine HeapOK.es rfl rfl ?_)))))
    · refine M.q (M.go rfl ?_)
      rw [h]
      exact M.done (finQ.ret [] rfl rfl rfl (by first | exact Wk.rfl | exact Wk.uncap | exact Wk.nil | exact Wk.b1 rfl | exact Wk.t2 Wk.rfl (Wk.b1 rfl)) (by repeat' (first | exact True.intro | refine ⟨⟨_, _, _, rfl, rfl, rfl, WkO.rfl⟩, ?_⟩ | refine HeapOK.acc rfl rfl ?_ | refine HeapOK.es rfl rfl ?_)))
end Go.Proofs.Yteegdhfekemhmaa

namespace Go.Proofs.Yteegdhfekemhmaa
open Go.RowKit Sim Go Sym
set_option maxRecDepth 100000
set_option linter.unusedVariables false
set_option linter.unusedSimpArgs false
variable {base : Nat}
def i2 (l : List Nat) : List Int := l.map fun (b : Nat) => (b : Int)
def n2 (l : List Int) : List Nat := l.map Int.toNat
theorem u8P_i2 (l : List Nat) : u8P (i2 l) = byP l := by simp [u8P, byP, i2]
theorem i2_len (l : List Nat) : (i2 l).length = l.length := by simp [i2]
theorem i2_n2 {l : List Int} (h : Bytes l) : i2 (n2 l) = l := by
  simp only [i2, n2, List.map_map]
  conv => rhs; rw [← List.map_id l]
  refine List.map_congr_left fun x hx => ?_
  have := h x hx
  simp only [Function.comp, id]; omega
theorem i2_bytes {l : List Nat} (h : ∀ b ∈ l, b < 256) : Bytes (i2 l) := by
  intro x hx
  obtain ⟨b, hb, rfl⟩ := List.mem_map.1 hx
  have := h b hb
  omega
theorem n2_bytes {l : List Int} (h : Bytes l) : ∀ b ∈ n2 l, b < 256 := by
  intro b hb
  obtain ⟨x, hx, rfl⟩ := List.mem_map.1 hb
  have := h x hx
  omega
theorem n2_len (l : List Int) : (n2 l).length = l.length := by simp [n2]
theorem n2_i2 (l : List Nat) : n2 (i2 l) = l := by simp [n2, i2, Function.comp_def]
theorem u8P_n2 {l : List Int} (h : Bytes l) : u8P l = byP (n2 l) := by rw [← u8P_i2, i2_n2 h]
theorem wtextN_spec (bs : List Int) (z : Bool) (c : Option Nat) (d : List Nat) (hne : bs ≠ []) (hb : bs.length ≤ 1000000000000) (ht : d.length ≤ 1000000000000) : CallS Try.prog base 84 [.c (.ptr 0 0), .c (.p (.tz z 1 (byP d) c))] (hW 1 bs) (.tup []) (hW 2 (bs ++ textB (i2 d))) := by
  rw [← u8P_i2]; exact wtext_spec bs z c (i2 d) hne hb (by rw [i2_len]; exact ht)
def Ent.p (e : Ent) : EntP := ⟨e.ix, e.tm, e.kd, i2 e.d⟩
structure PMsg where
  kd : Int
  fr : Int
  to : Int
  tm : Int
  ix : Int
  lt : Int
  cm : Int
  ez : Bool
  es : List Ent
  ok : Bool
  hint : Int
  cz : Bool
  cf : List Int
  dz : Bool
  d : List Nat
  off : Int
  sz : Int
  ctx : Int
def PMsg.cs (m : PMsg) : List PC := [.int .i64 m.kd, .int .i64 m.fr, .int .i64 m.to, .int .i64 m.tm, .int .i64 m.ix, .int .i64 m.lt, .int .i64 m.cm, .tz m.ez 4 (entP m.es) none, .bs m.ok, .int .i64 m.hint, .tz m.cz 1 (inP m.cf) none, .tz m.dz 1 (byP m.d) none, .int .i64 m.off, .int .i64 m.sz, .int .i64 m.ctx]
def PMsg.pc (m : PMsg) : PC := .agg m.cs
def PMsg.v (m : PMsg) : XV := .agg (m.cs.map XC.p)
def PMsg.hd (m : PMsg) : List Int := [m.kd, m.fr, m.to, m.tm, m.ix, m.lt, m.cm]
def PMsg.p (m : PMsg) : MsgP := ⟨m.hd, m.es.map Ent.p, m.ok, m.hint, m.cf, i2 m.d, [m.off, m.sz, m.ctx]⟩
structure PMsg.good (m : PMsg) : Prop where
  hd : ∀ n ∈ m.hd, InI64 n
  es : m.es.length ≤ 10000 ∧ ∀ e ∈ m.es, InI64 e.ix ∧ InI64 e.tm ∧ InI64 e.kd ∧ e.d.length ≤ 10000 ∧ ∀ b ∈ e.d, b < 256
  hint : InI64 m.hint
  cf : m.cf.length ≤ 10000 ∧ ∀ n ∈ m.cf, InI64 n
  d : m.d.length ≤ 1000000 ∧ ∀ b ∈ m.d, b < 256
  q : InI64 m.off ∧ InI64 m.sz ∧ InI64 m.ctx
theorem PMsg.good.p {m : PMsg} (h : m.good) : m.p.good := ⟨rfl, h.hd, by have := h.es.1; simp [PMsg.p]; omega, fun e he => by
  obtain ⟨x, hx, rfl⟩ := List.mem_map.1 he
  obtain ⟨a, b, c, d, e⟩ := h.es.2 x hx
  exact ⟨a, b, c, by simp [Ent.p, i2_len]; omega, i2_bytes e⟩, h.hint, h.cf.2, by have := h.cf.1; simp only [PMsg.p]; omega, by have := h.d.1; simp [PMsg.p, i2_len]; omega, i2_bytes h.d.2, rfl, fun n hn => by
  simp only [PMsg.p, List.mem_cons, List.not_mem_nil, or_false] at hn
  obtain ⟨a, b, c⟩ := h.q
  rcases hn with rfl | rfl | rfl <;> assumption⟩
noncomputable def lMs : {F : LF // lowerF Try.prog 59 = some F} := ⟨_, rfl⟩
def hMh (m : PMsg) (bs : List Int) : HS := ⟨[(3, some (.els 1 (u8P bs))), (1, some (.row [.acc 3 1 (u8P bs)] true)), (2, some (.els 1 (inP m.hd))), (0, some (.row (m.cs.map XC.p) true))], 4⟩
theorem ms_head (m : PMsg) (l : List Int) (hl : l = m.hd) (hok : ∀ n ∈ l, InI64 n) (Q : QX) (hq : Q (.exit 0) [(1, .c (.ptr 0 0)), (3, .c (.ptr 1 0))] (hMh m (numsB l))) :
    ∀ (rest pre : List Int), l = pre ++ rest → pre ≠ [] → XH Try.prog base lMs.1.n 0 (lMs.1.c.lp 0) [(1, .c (.ptr 0 0)), (3, .c (.ptr 1 0)), (24, .c (.sl 2 0 7 1 (some 7))), (25, .c (.p (.int .i64 7))), (26, .c (.p (.int .i64 pre.length)))] (hMh m (numsB pre)) Q := by
  have hl7 : l.length = 7 := by rw [hl]; rfl
  intro rest
  induction rest with
  | nil =>
    intro pre hp hne
    simp at hp
    subst hp
    refine M.round (M.go rfl ?_)
    refine M.cond rfl (fun hc => absurd hc (by omega)) (fun hc => ?_)
    refine M.ren [(0, 0), (1, 1), (2, 2), (3, 3)] ?_ trivial rfl (by repeat' (first | exact True.intro | refine ⟨⟨_, _, rfl, rfl, Wk.rfl⟩, ?_⟩ | refine ⟨⟨_, _, accV_ren rfl, rfl, Wk.rfl⟩, ?_⟩ | refine ⟨⟨_, _, accV_ren rfl, rfl, Wk.acc0⟩, ?_⟩ | refine ⟨⟨_, _, rfl, rfl, Wk.uncap⟩, ?_⟩ | refine ⟨⟨_, _, rfl, rfl, Wk.nil⟩, ?_⟩)) (by repeat' (first | exact True.intro | refine ⟨⟨_, _, _, rfl, rfl, rfl, WkO.rfl⟩, ?_⟩ | refine HeapOK.acc rfl rfl ?_ | refine HeapOK.es rfl rfl ?_)) (e' := [(1, .c (.ptr 0 0)), (3, .c (.ptr 1 0))]) (h' := hMh m (numsB l))
    exact M.exit (M.go rfl (M.done hq))
  | cons a rest ih =>
    intro pre hp hne
    have hlen : l.length = pre.length + (rest.length + 1) := by rw [hp]; simp
    have hu : (inP m.hd)[pre.length]? = some (.int .i64 a) := by rw [← hl, hp]; simp [inP]
    have hn := numsB_len pre (fun i hi => hok i (by rw [hp]; simp [hi]))
    have hbn : numsB pre ≠ [] := by
      intro e
      have h1 := hn.1
      rw [e] at h1
      exact hne (List.eq_nil_of_length_eq_zero (by simpa using h1))
    have hw2 : IntKind.i64.wrap ((pre.length : Int) + 1) = ((pre ++ [a]).length : Int) := by rw [wr64 (by omega) (by omega)]; simp
    refine M.round (M.go rfl ?_)
    refine M.cond rfl (fun hc => ?_) (fun hc => absurd (by omega) hc)
    refine M.go rfl ?_
    refine M.op trivial (SOp.iaOn rfl rfl (by omega)) ?_
    refine M.op trivial (SOp.ld1O rfl rfl hu rfl rfl rfl) ?_
    refine M.go rfl ?_
    refine M.use trivial (wnum_spec' (numsB pre) a hbn (by omega) (hok a (by rw [hp]; simp))) [(0, 1), (1, 3)] rfl rfl rfl (by repeat' (first | exact True.intro | refine ⟨⟨_, _, _, rfl, rfl, rfl, WkO.rfl⟩, ?_⟩ | refine HeapOK.acc rfl rfl ?_ | refine HeapOK.es rfl rfl ?_)) rfl rfl ?_
    refine M.go rfl ?_
    rw [hw2]
    have ih' := ih (pre ++ [a]) (by rw [hp]; simp) (by simp)
    unfold hMh at ih'
    rw [numsB_snoc] at ih'
    exact M.again (XH.ren [(0, 0), (1, 1), (2, 2), (3, 4)] ih' rfl (by repeat' (first | exact True.intro | refine ⟨⟨_, _, rfl, rfl, Wk.rfl⟩, ?_⟩ | refine ⟨⟨_, _, accV_ren rfl, rfl, Wk.rfl⟩, ?_⟩ | refine ⟨⟨_, _, accV_ren rfl, rfl, Wk.acc0⟩, ?_⟩ | refine ⟨⟨_, _, rfl, rfl, Wk.uncap⟩, ?_⟩ | refine ⟨⟨_, _, rfl, rfl, Wk.nil⟩, ?_⟩)) (by repeat' (first | exact True.intro | refine ⟨⟨_, _, _, rfl, rfl, rfl, WkO.rfl⟩, ?_⟩ | refine HeapOK.acc rfl rfl ?_ | refine HeapOK.es rfl rfl ?_)))
def hMs (m : PMsg) (bs : List Int) : HS := ⟨[(2, some (.els 1 (u8P bs))), (1, some (.row [.acc 2 1 (u8P bs)] true)), (0, some (.row (m.cs.map XC.p) true))], 3⟩
theorem ms_ents (m : PMsg) (l : List Ent) (hl : l.length ≤ 10000) (hok : ∀ e ∈ l, InI64 e.ix ∧ InI64 e.tm ∧ InI64 e.kd ∧ e.d.length ≤ 10000 ∧ ∀ b ∈ e.d, b < 256) (z : Bool) (bs : List Int) (hne : bs ≠ []) (hb : bs.length ≤ 1000) (Q : QX) (hq : Q (.exit 2) [(1, .c (.ptr 0 0)), (3, .c (.ptr 1 0))] (hMs m (bs ++ entsB (l.map Ent.p)))) :
    ∀ (rest pre : List Ent), l = pre ++ rest → XH Try.prog base lMs.1.n 0 (lMs.1.c.lp 1) [(1, .c (.ptr 0 0)), (3, .c (.ptr 1 0)), (40, .c (.p (.tz z 4 (entP l) none))), (41, .c (.p (.int .i64 l.length))), (42, .c (.p (.int .i64 pre.length)))] (hMs m (bs ++ entsB (pre.map Ent.p))) Q := by
  intro rest
  induction rest with
  | nil =>
    intro pre hp
    simp at hp
    subst hp
    refine M.round (M.go rfl ?_)
    refine M.cond rfl (fun hc => absurd hc (by omega)) (fun hc => ?_)
    refine M.ren [(0, 0), (1, 1), (2, 2)] ?_ trivial rfl (by repeat' (first | exact True.intro | refine ⟨⟨_, _, rfl, rfl, Wk.rfl⟩, ?_⟩ | refine ⟨⟨_, _, accV_ren rfl, rfl, Wk.rfl⟩, ?_⟩ | refine ⟨⟨_, _, accV_ren rfl, rfl, Wk.acc0⟩, ?_⟩ | refine ⟨⟨_, _, rfl, rfl, Wk.uncap⟩, ?_⟩ | refine ⟨⟨_, _, rfl, rfl, Wk.nil⟩, ?_⟩)) (by repeat' (first | exact True.intro | refine ⟨⟨_, _, _, rfl, rfl, rfl, WkO.rfl⟩, ?_⟩ | refine HeapOK.acc rfl rfl ?_ | refine HeapOK.es rfl rfl ?_)) (e' := [(1, .c (.ptr 0 0)), (3, .c (.ptr 1 0))]) (h' := hMs m (bs ++ entsB (l.map Ent.p)))
    exact M.exit (M.go rfl (M.done hq))
  | cons a rest ih =>
    intro pre hp
    have hlen : l.length = pre.length + (rest.length + 1) := by rw [hp]; simp
    have hu : (entP l)[((pre.length : Int)).toNat]? = some a.pc := by rw [hp]; exact at_app _ _ _ _
    obtain ⟨a1, a2, a3, a4, a5⟩ := hok a (by rw [hp]; simp)
    have hn := (entsB_len (pre.map Ent.p) 10000 (fun e he => by
      obtain ⟨x, hx, rfl⟩ := List.mem_map.1 he
      obtain ⟨q1, q2, q3, q4, q5⟩ := hok x (by rw [hp]; simp [hx])
      exact ⟨⟨q1, q2, q3, by simp [Ent.p, i2_len]; omega, i2_bytes q5⟩, by simpa [Ent.p, i2_len] using q4⟩)).2
    have hpl : (pre.map Ent.p).length ≤ 10000 := by simp; omega
    have hn2 : (10000 + 40) * (pre.map Ent.p).length ≤ (10000 + 40) * 10000 := Nat.mul_le_mul_left _ hpl
    obtain ⟨cs, hcs⟩ : ∃ cs, cs = bs ++ entsB (pre.map Ent.p) := ⟨_, rfl⟩
    have hcn : cs ≠ [] := by rw [hcs]; simp [hne]
    have hcl : cs.length ≤ 200000000 := by rw [hcs]; simp; omega
    have n1 := numB_len a1.1 a1.2
    have n2 := numB_len a2.1 a2.2
    have n3 := numB_len a3.1 a3.2
    have hw2 : IntKind.i64.wrap ((pre.length : Int) + 1) = ((pre ++ [a]).length : Int) := by rw [wr64 (by omega) (by omega)]; simp
    rw [← hcs]
    refine M.round (M.go rfl ?_)
    refine M.cond rfl (fun hc => ?_) (fun hc => absurd (by omega) hc)
    refine M.go rfl ?_
    refine M.op trivial (SOp.ia rfl rfl (by omega) hu) ?_
    refine M.op trivial (SOp.ldne rfl hu rfl rfl rfl) ?_
    refine M.go rfl ?_
    refine M.use trivial (wnum_spec' cs a.ix hcn (by omega) a1) [(0, 1), (1, 2)] rfl rfl rfl (by repeat' (first | exact True.intro | refine ⟨⟨_, _, _, rfl, rfl, rfl, WkO.rfl⟩, ?_⟩ | refine HeapOK.acc rfl rfl ?_ | refine HeapOK.es rfl rfl ?_)) rfl rfl ?_
    refine M.go rfl ?_
    refine M.use trivial (wnum_spec' (cs ++ numB a.ix) a.tm (by simp [hcn]) (by simp; omega) a2) [(0, 1), (1, 4)] rfl rfl rfl (by repeat' (first | exact True.intro | refine ⟨⟨_, _, _, rfl, rfl, rfl, WkO.rfl⟩, ?_⟩ | refine HeapOK.acc rfl rfl ?_ | refine HeapOK.es rfl rfl ?_)) rfl rfl ?_
    refine M.go rfl ?_
    refine M.use trivial (wnum_spec' (cs ++ numB a.ix ++ numB a.tm) a.kd (by simp [hcn]) (by simp; omega) a3) [(0, 1), (1, 5)] rfl rfl rfl (by repeat' (first | exact True.intro | refine ⟨⟨_, _, _, rfl, rfl, rfl, WkO.rfl⟩, ?_⟩ | refine HeapOK.acc rfl rfl ?_ | refine HeapOK.es rfl rfl ?_)) rfl rfl ?_
    refine M.go rfl ?_
    refine M.use trivial (wtextN_spec (cs ++ numB a.ix ++ numB a.tm ++ numB a.kd) a.z a.c a.d (by simp [hcn]) (by simp; omega) (by omega)) [(0, 1), (1, 6)] rfl rfl rfl (by repeat' (first | exact True.intro | refine ⟨⟨_, _, _, rfl, rfl, rfl, WkO.rfl⟩, ?_⟩ | refine HeapOK.acc rfl rfl ?_ | refine HeapOK.es rfl rfl ?_)) rfl rfl ?_
    refine M.go rfl ?_
    rw [hw2]
    have ih' := ih (pre ++ [a]) (by rw [hp]; simp)
    unfold hMs at ih'
    rw [show bs ++ entsB ((pre ++ [a]).map Ent.p) = cs ++ numB a.ix ++ numB a.tm ++ numB a.kd ++ textB (i2 a.d) by rw [List.map_append, List.map_cons, List.map_nil, entsB_snoc, hcs]; simp [enB, Ent.p]] at ih'
    exact M.again (XH.ren [(0, 0), (1, 1), (2, 7)] ih' rfl (by repeat' (first | exact True.intro | refine ⟨⟨_, _, rfl, rfl, Wk.rfl⟩, ?_⟩ | refine ⟨⟨_, _, accV_ren rfl, rfl, Wk.rfl⟩, ?_⟩ | refine ⟨⟨_, _, accV_ren rfl, rfl, Wk.acc0⟩, ?_⟩ | refine ⟨⟨_, _, rfl, rfl, Wk.uncap⟩, ?_⟩ | refine ⟨⟨_, _, rfl, rfl, Wk.nil⟩, ?_⟩)) (by repeat' (first | exact True.intro | refine ⟨⟨_, _, _, rfl, rfl, rfl, WkO.rfl⟩, ?_⟩ | refine HeapOK.acc rfl rfl ?_ | refine HeapOK.es rfl rfl ?_)))
theorem Msg_spec (m : PMsg) (hm : m.good) : CallS Try.prog base 59 [m.v] ⟨[], 0⟩ (.c (.p (.tz true 1 (u8P (msgB m.p)) none))) ⟨[], 0⟩ := by
  have hn7 := numsB_len m.hd hm.hd
  have hn7' : m.hd.length = 7 := rfl
  have hbn : numsB m.hd ≠ [] := by intro e; have := hn7.1; rw [e] at this; simp [hn7'] at this
  have hne := (entsB_len (m.es.map Ent.p) 10000 (fun e he => by
    obtain ⟨x, hx, rfl⟩ := List.mem_map.1 he
    obtain ⟨q1, q2, q3, q4, q5⟩ := hm.es.2 x hx
    exact ⟨⟨q1, q2, q3, by simp [Ent.p, i2_len]; omega, i2_bytes q5⟩, by simpa [Ent.p, i2_len] using q4⟩)).2
  have hel := hm.es.1
  have hn2 : (10000 + 40) * (m.es.map Ent.p).length ≤ (10000 + 40) * 10000 := Nat.mul_le_mul_left _ (by simpa using hel)
  have n1 : (numB (m.es.length : Int)).length ≤ 10 := numB_len (by omega) (by omega)
  have n2 := numB_len hm.hint.1 hm.hint.2
  have hcl := hm.cf.1
  have n3 : (numB (m.cf.length : Int)).length ≤ 10 := numB_len (by omega) (by omega)
  have n4 := (numsB_len m.cf hm.cf.2).2
  have hdl := hm.d.1
  have n5 := textB_len (xs := i2 m.d) (by rw [i2_len]; omega)
  rw [i2_len] at n5
  obtain ⟨q1, q2, q3⟩ := hm.q
  have m1 := numB_len q1.1 q1.2
  have m2 := numB_len q2.1 q2.2
  have m3 := numB_len q3.1 q3.2
  refine CallS.of noNG lMs.2 rfl (M.start (M.go rfl ?_))
  refine M.loop (M.round (M.go rfl ?_))
  refine M.cond rfl (fun hc => ?_) (fun hc => absurd (by decide) hc)
  refine M.go rfl ?_
  refine M.op trivial (SOp.iaO rfl rfl (by omega) (by decide)) ?_
  refine M.op trivial (SOp.ld1O (i := 0) (o := 0) (el := inP m.hd) rfl rfl rfl rfl rfl rfl) ?_
  refine M.go rfl ?_
  refine M.use trivial (wnum0_spec m.kd (hm.hd m.kd (by simp [PMsg.hd]))) [(0, 1)] rfl rfl rfl ⟨⟨_, _, _, rfl, rfl, rfl, WkO.row ⟨Wk.nil, trivial⟩⟩, trivial⟩ rfl rfl ?_
  refine M.go rfl ?_
  have h0 := ms_head (base := base) m m.hd rfl hm.hd
  have e0 : numsB [m.kd] = numB m.kd := by simp [numsB]
  refine M.again (XH.ren [(0, 0), (1, 1), (2, 2), (3, 3)] (h0 _ ?_ [m.fr, m.to, m.tm, m.ix, m.lt, m.cm] [m.kd] rfl (by simp)) rfl (by repeat' (first | exact True.intro | refine ⟨⟨_, _, rfl, rfl, Wk.rfl⟩, ?_⟩ | refine ⟨⟨_, _, accV_ren rfl, rfl, Wk.rfl⟩, ?_⟩ | refine ⟨⟨_, _, accV_ren rfl, rfl, Wk.acc0⟩, ?_⟩ | refine ⟨⟨_, _, rfl, rfl, Wk.uncap⟩, ?_⟩ | refine ⟨⟨_, _, rfl, rfl, Wk.nil⟩, ?_⟩)) ?_)
  rotate_left
  · unfold hMh
    rw [e0]
    exact (by repeat' (first | exact True.intro | refine ⟨⟨_, _, _, rfl, rfl, rfl, WkO.rfl⟩, ?_⟩ | refine HeapOK.acc rfl rfl ?_ | refine HeapOK.es rfl rfl ?_))
  refine M.q (M.go rfl (M.done (M.q (M.go rfl ?_))))
  rw [entP_len]
  refine M.use trivial (wnum_spec' (numsB m.hd) m.es.length hbn (by omega) ⟨by omega, by omega⟩) [(0, 1), (1, 3)] rfl rfl rfl (by repeat' (first | exact True.intro | refine ⟨⟨_, _, _, rfl, rfl, rfl, WkO.rfl⟩, ?_⟩ | refine HeapOK.acc rfl rfl ?_ | refine HeapOK.es rfl rfl ?_)) rfl rfl ?_
  refine M.go rfl ?_
  rw [entP_len]
  obtain ⟨b1, hb1⟩ : ∃ b1, b1 = numsB m.hd ++ numB m.es.length := ⟨_, rfl⟩
  have l1 : b1.length ≤ 80 := by rw [hb1]; simp; omega
  have c1 : b1 ≠ [] := by rw [hb1]; simp [hbn]
  rw [← hb1]
  have h1 := ms_ents (base := base) m m.es hm.es.1 hm.es.2 m.ez b1 c1 (by omega)
  refine M.loop (XH.ren [(0, 0), (1, 1), (2, 4)] (h1 _ ?_ m.es [] rfl) rfl (by repeat' (first | exact True.intro | refine ⟨⟨_, _, rfl, rfl, Wk.rfl⟩, ?_⟩ | refine ⟨⟨_, _, accV_ren rfl, rfl, Wk.rfl⟩, ?_⟩ | refine ⟨⟨_, _, accV_ren rfl, rfl, Wk.acc0⟩, ?_⟩ | refine ⟨⟨_, _, rfl, rfl, Wk.uncap⟩, ?_⟩ | refine ⟨⟨_, _, rfl, rfl, Wk.nil⟩, ?_⟩)) ?_)
  rotate_left
  · unfold hMs
    rw [show entsB (([] : List Ent).map Ent.p) = [] from rfl, List.append_nil]
    exact (by repeat' (first | exact True.intro | refine ⟨⟨_, _, _, rfl, rfl, rfl, WkO.rfl⟩, ?_⟩ | refine HeapOK.acc rfl rfl ?_ | refine HeapOK.es rfl rfl ?_))
  refine M.q (M.go rfl ?_)
  obtain ⟨b2, hb2⟩ : ∃ b2, b2 = b1 ++ entsB (m.es.map Ent.p) := ⟨_, rfl⟩
  have l2 : b2.length ≤ 110000000 := by rw [hb2]; simp; omega
  have c2 : b2 ≠ [] := by rw [hb2]; simp [c1]
  rw [← hb2]
  refine M.use trivial (wflag_spec b2 m.ok c2 (by omega)) [(0, 1), (1, 2)] rfl rfl rfl (by repeat' (first | exact True.intro | refine ⟨⟨_, _, _, rfl, rfl, rfl, WkO.rfl⟩, ?_⟩ | refine HeapOK.acc rfl rfl ?_ | refine HeapOK.es rfl rfl ?_)) rfl rfl ?_
  refine M.go rfl ?_
  refine M.use trivial (wnum_spec' (b2 ++ flagB m.ok) m.hint (by simp [c2]) (by simp [flagB]; omega) hm.hint) [(0, 1), (1, 3)] rfl rfl rfl (by repeat' (first | exact True.intro | refine ⟨⟨_, _, _, rfl, rfl, rfl, WkO.rfl⟩, ?_⟩ | refine HeapOK.acc rfl rfl ?_ | refine HeapOK.es rfl rfl ?_)) rfl rfl ?_
  refine M.go rfl ?_
  obtain ⟨b3, hb3⟩ : ∃ b3, b3 = b2 ++ flagB m.ok ++ numB m.hint := ⟨_, rfl⟩
  have l3 : b3.length ≤ 110000100 := by rw [hb3]; simp [flagB]; omega
  have c3 : b3 ≠ [] := by rw [hb3]; simp [c2]
  rw [← hb3]
  refine M.use trivial (pc_spec b3 m.cz none m.cf c3 (by omega) (by omega) hm.cf.2) [(0, 1), (1, 4)] rfl rfl rfl (by repeat' (first | exact True.intro | refine ⟨⟨_, _, _, rfl, rfl, rfl, WkO.rfl⟩, ?_⟩ | refine HeapOK.acc rfl rfl ?_ | refine HeapOK.es rfl rfl ?_)) rfl rfl ?_
  refine M.go rfl ?_
  refine M.use trivial (wtextN_spec (b3 ++ confB m.cf) m.dz none m.d (by simp [c3]) (by simp [confB]; omega) (by omega)) [(0, 1), (1, 5)] rfl rfl rfl (by repeat' (first | exact True.intro | refine ⟨⟨_, _, _, rfl, rfl, rfl, WkO.rfl⟩, ?_⟩ | refine HeapOK.acc rfl rfl ?_ | refine HeapOK.es rfl rfl ?_)) rfl rfl ?_
  refine M.go rfl ?_
  obtain ⟨b4, hb4⟩ : ∃ b4, b4 = b3 ++ confB m.cf ++ textB (i2 m.d) := ⟨_, rfl⟩
  have l4 : b4.length ≤ 140000000 := by rw [hb4]; simp [confB]; omega
  have c4 : b4 ≠ [] := by rw [hb4]; simp [c3]
  rw [← hb4]
  refine M.use trivial (wnum_spec' b4 m.off c4 (by omega) q1) [(0, 1), (1, 6)] rfl rfl rfl (by repeat' (first | exact True.intro | refine ⟨⟨_, _, _, rfl, rfl, rfl, WkO.rfl⟩, ?_⟩ | refine HeapOK.acc rfl rfl ?_ | refine HeapOK.es rfl rfl ?_)) rfl rfl ?_
  refine M.go rfl ?_
  refine M.use trivial (wnum_spec' (b4 ++ numB m.off) m.sz (by simp [c4]) (by simp; omega) q2) [(0, 1), (1, 7)] rfl rfl rfl (by repeat' (first | exact True.intro | refine ⟨⟨_, _, _, rfl, rfl, rfl, WkO.rfl⟩, ?_⟩ | refine HeapOK.acc rfl rfl ?_ | refine HeapOK.es rfl rfl ?_)) rfl rfl ?_
  refine M.go rfl ?_
  refine M.use trivial (wnum_spec' (b4 ++ numB m.off ++ numB m.sz) m.ctx (by simp [c4]) (by simp; omega) q3) [(0, 1), (1, 8)] rfl rfl rfl (by repeat' (first | exact True.intro | refine ⟨⟨_, _, _, rfl, rfl, rfl, WkO.rfl⟩, ?_⟩ | refine HeapOK.acc rfl rfl ?_ | refine HeapOK.es rfl rfl ?_)) rfl rfl ?_
  refine M.go rfl ?_
  refine M.use trivial (wbytes_spec (b4 ++ numB m.off ++ numB m.sz ++ numB m.ctx) (by simp [c4]) (by simp; omega)) [(0, 1), (1, 9)] rfl rfl rfl (by repeat' (first | exact True.intro | refine ⟨⟨_, _, _, rfl, rfl, rfl, WkO.rfl⟩, ?_⟩ | refine HeapOK.acc rfl rfl ?_ | refine HeapOK.es rfl rfl ?_)) rfl rfl ?_
  refine M.go rfl ?_
  rw [show msgB m.p = b4 ++ numB m.off ++ numB m.sz ++ numB m.ctx by rw [hb4, hb3, hb2, hb1]; simp [msgB, PMsg.p, numsB]]
  exact M.ret (M.go rfl (M.done (finQ.ret [] rfl rfl rfl (by first | exact Wk.rfl | exact Wk.uncap | exact Wk.nil | exact Wk.b1 rfl | exact Wk.t2 Wk.rfl (Wk.b1 rfl)) (by repeat' (first | exact True.intro | refine ⟨⟨_, _, _, rfl, rfl, rfl, WkO.rfl⟩, ?_⟩ | refine HeapOK.acc rfl rfl ?_ | refine HeapOK.es rfl rfl ?_)))))
end Go.Proofs.Yteegdhfekemhmaa

namespace Go.Proofs.Yteegdhfekemhmaa
open Go.RowKit Sim Go Sym
set_option maxRecDepth 100000
set_option linter.unusedVariables false
set_option linter.unusedSimpArgs false
variable {base : Nat}
def RS.ent (r : RS) : Ent × RS := (⟨r.num.1, r.num.2.num.1, r.num.2.num.2.num.1, r.num.2.num.2.num.2.text.1.1, n2 r.num.2.num.2.num.2.text.1.2, none⟩, r.num.2.num.2.num.2.text.2)
def RS.ents : Nat → RS → List Ent × RS
  | 0, r => ([], r)
  | j + 1, r => ((r.ents j).1 ++ [(r.ents j).2.ent.1], (r.ents j).2.ent.2)
theorem RS.ok.ent {r : RS} (hr : r.ok) : r.ent.2.ok := hr.num.num.num.text
theorem RS.ents_ok {r : RS} (hr : r.ok) : ∀ j, (r.ents j).2.ok
  | 0 => hr
  | j + 1 => (RS.ents_ok hr j).ent
theorem RS.ents_len (r : RS) : ∀ j, (r.ents j).1.length = j
  | 0 => rfl
  | j + 1 => by simp [RS.ents, RS.ents_len r j]
theorem RS.ent_eq {r : RS} (hr : r.ok) : r.ent.1.p = eD r.xs ∧ r.ent.2.xs = eN r.xs ∧ r.ent.2.bad = eBd r.xs r.bad := by
  obtain ⟨a1, a2, a3⟩ := r.num_eq
  obtain ⟨b1, b2, b3⟩ := r.num.2.num_eq
  obtain ⟨c1, c2, c3⟩ := r.num.2.num.2.num_eq
  obtain ⟨d1, d2, d3⟩ := r.num.2.num.2.num.2.text_eq hr.num.num.num
  have hb := (RS.text_b hr.num.num.num).2
  refine ⟨?_, ?_, ?_⟩
  · have e := i2_n2 hb
    simp only [RS.ent, Ent.p, eD, e]
    simp only [a1, b1, c1, d1, a2, b2, c2]
  · simp only [RS.ent, eN, d2, c2, b2, a2]
  · simp only [RS.ent, eBd, d3, c2, c3, b2, b3, a2, a3]
theorem RS.ents_eq {r : RS} (hr : r.ok) : ∀ j, (r.ents j).1.map Ent.p = eL j r.xs ∧ (r.ents j).2.xs = eR j r.xs ∧ (r.ents j).2.bad = eB j r.xs r.bad
  | 0 => ⟨rfl, rfl, rfl⟩
  | j + 1 => by
    obtain ⟨h1, h2, h3⟩ := RS.ents_eq hr j
    obtain ⟨e1, e2, e3⟩ := RS.ent_eq (RS.ents_ok hr j)
    simp only [RS.ents, eL, eR, eB, List.map_append, List.map_cons, List.map_nil, h1, h2, h3, e1, e2, e3, and_self]
theorem RS.ents_in {r : RS} (hr : r.ok) : ∀ j, ∀ e ∈ (r.ents j).1, InI64 e.ix ∧ InI64 e.tm ∧ InI64 e.kd ∧ e.d.length ≤ 1000000000000 ∧ ∀ b ∈ e.d, b < 256
  | 0, e, he => by simp [RS.ents] at he
  | j + 1, e, he => by
    simp only [RS.ents, List.mem_append, List.mem_singleton] at he
    rcases he with he | rfl
    · exact RS.ents_in hr j e he
    · have h := RS.ents_ok hr j
      have ht := RS.text_b h.num.num.num
      exact ⟨RS.num_I64 h, RS.num_I64 h.num, RS.num_I64 h.num.num, by simpa [RS.ent, n2_len] using ht.1, n2_bytes ht.2⟩
theorem RS.ents_xs (r : RS) : True := trivial
def rrow (r : RS) : List XC := [.p (.tz r.z 1 (u8P r.xs) none), .p (.bs r.bad)]
theorem appL_sh : ∀ (l : List (Nat × Option XO)) (H1 H2 : HS) (d : Nat), H1.sh = H2.sh → HS.sh ⟨appL l H1.l, H1.next + d⟩ = HS.sh ⟨appL l H2.l, H2.next + d⟩
  | [], H1, H2, d, h => by
    have h1 : HS.t H1.l = HS.t H2.l := congrArg SH.m h
    have h2 : H1.next = H2.next := congrArg SH.next h
    simp only [appL, HS.sh, h1, h2]
  | p :: l, H1, H2, d, h => by
    have := appL_sh l H1 H2 d h
    have h1 : HS.t (appL l H1.l) = HS.t (appL l H2.l) := congrArg SH.m this
    have h2 : H1.next + d = H2.next + d := congrArg SH.next this
    simp only [appL, HS.sh, HS.t, h1, h2]
theorem flat_u8 : ∀ {a b : List Int}, flatE 1 (u8P a) = flatE 1 (u8P b) → a = b
  | [], [], _ => rfl
  | [], y :: b, h => by have := congrArg List.length h; rw [flatE_len, flatE_len] at this; simp [u8P] at this
  | x :: a, [], h => by have := congrArg List.length h; rw [flatE_len, flatE_len] at this; simp [u8P] at this
  | x :: a, y :: b, h => by
    have h' : fit 1 (PC.int .u8 x).flat ++ flatE 1 (u8P a) = fit 1 (PC.int .u8 y).flat ++ flatE 1 (u8P b) := h
    have e1 : ∀ x : Int, fit 1 (PC.int .u8 x).flat = [SC.int .u8 x] := fun x => by simp [PC.flat, fit]
    rw [e1, e1] at h'
    simp only [List.singleton_append, List.cons.injEq, SC.int.injEq, true_and] at h'
    rw [h'.1, flat_u8 h'.2]
theorem rrow_sh {H1 H2 : HS} {p : Nat} {r1 r2 : RS} (h1 : H1.get p = some (.row (rrow r1) true)) (h2 : H2.get p = some (.row (rrow r2) true)) (h : H1.sh = H2.sh) : r1.xs = r2.xs ∧ r1.bad = r2.bad := by
  have e : H1.sh.get p = H2.sh.get p := by rw [h]
  rw [HS.get_sh, HS.get_sh, h1, h2] at e
  simp only [Option.map_some, XO.so, rrow, List.map_cons, List.map_nil, XC.sc, PC.sc, Option.some.injEq, SO.row.injEq, List.cons.injEq, SC.bool.injEq, and_true] at e
  obtain ⟨e1, e2⟩ := e
  refine ⟨?_, e2⟩
  cases z1 : (r1.z && (u8P r1.xs).isEmpty) <;> cases z2 : (r2.z && (u8P r2.xs).isEmpty) <;> simp only [z1, z2, cond_true, cond_false] at e1
  · simp only [SC.fz.injEq] at e1; exact flat_u8 e1.2.2.1
  · cases e1
  · cases e1
  · simp only [Bool.and_eq_true, List.isEmpty_iff] at z1 z2
    have a1 : r1.xs = [] := by have := congrArg List.length z1.2; rw [u8P_len] at this; exact List.eq_nil_of_length_eq_zero this
    have a2 : r2.xs = [] := by have := congrArg List.length z2.2; rw [u8P_len] at this; exact List.eq_nil_of_length_eq_zero this
    rw [a1, a2]
theorem num_recs {H1 H2 : HS} {p d : Nat} {r1 r2 : RS} (h1 : H1.get p = some (.row (rrow r1) true)) (h2 : H2.get p = some (.row (rrow r2) true)) (h : H1.sh = H2.sh) :
    XV.sv (.c (.p (.int .i64 r1.num.1))) = XV.sv (.c (.p (.int .i64 r2.num.1))) ∧ HS.sh ⟨appL [(p, some (.row (rrow r1.num.2) true))] (appL [(p, none)] H1.l), H1.next + d⟩ = HS.sh ⟨appL [(p, some (.row (rrow r2.num.2) true))] (appL [(p, none)] H2.l), H2.next + d⟩ := by
  obtain ⟨e1, e2⟩ := rrow_sh h1 h2 h
  have : r1.num = r2.num := by unfold RS.num; rw [e1, e2]
  rw [this]
  exact ⟨rfl, appL_sh [(p, some (.row (rrow r2.num.2) true)), (p, none)] H1 H2 d h⟩
noncomputable def lRm : {F : LF // lowerF Try.prog 60 = some F} := ⟨_, rfl⟩
def zrow : List XC := [.p (.int .i64 0), .p (.int .i64 0), .p (.int .i64 0), .p (.int .i64 0), .p (.int .i64 0), .p (.int .i64 0), .p (.int .i64 0), .p (.tz true 0 [] none), .p (.bool false), .p (.int .i64 0), .p (.tz true 0 [] none), .p (.tz true 0 [] none), .p (.int .i64 0), .p (.int .i64 0), .p (.int .i64 0)]
def hrow (h : List Int) (x : XC) : List XC := [.p (.int .i64 (h.getD 0 0)), .p (.int .i64 (h.getD 1 0)), .p (.int .i64 (h.getD 2 0)), .p (.int .i64 (h.getD 3 0)), .p (.int .i64 (h.getD 4 0)), .p (.int .i64 (h.getD 5 0)), .p (.int .i64 (h.getD 6 0)), x, .p (.bool false), .p (.int .i64 0), .p (.tz true 0 [] none), .p (.tz true 0 [] none), .p (.int .i64 0), .p (.int .i64 0), .p (.int .i64 0)]
def hRm (hd : List Int) (r : RS) (l : List Ent) : HS := ⟨[(3, some (.els 4 (entP l))), (2, some (.row (hrow hd (.acc 3 4 (entP l))) true)), (1, some (.row (rrow r) true)), (0, some (.row zrow true))], 4⟩
theorem rm_loop (hd : List Int) (r : RS) (hr : r.ok) (k : Nat) (hk : k ≤ 1000000000000) (Q : QX) (hq : Q (.exit 0) [(2, .c (.ptr 0 0)), (4, .c (.ptr 1 0)), (5, .c (.ptr 2 0))] (hRm hd (r.ents k).2 (r.ents k).1)) :
    ∀ (rem j : Nat), j + 1 + rem = k → XH Try.prog base lRm.1.n 0 (lRm.1.c.lp 0) [(2, .c (.ptr 0 0)), (4, .c (.ptr 1 0)), (5, .c (.ptr 2 0)), (24, .c (.p (.int .i64 k))), (25, .c (.p (.int .i64 (j + 1 : Nat))))] (hRm hd (r.ents (j + 1)).2 (r.ents (j + 1)).1) Q := by
  intro rem
  induction rem with
  | zero =>
    intro j hj
    obtain rfl : j + 1 = k := by omega
    refine M.round (M.go rfl ?_)
    refine M.cond rfl (fun hc => absurd hc (by omega)) (fun hc => ?_)
    refine M.ren [(0, 0), (1, 1), (2, 2), (3, 3)] ?_ trivial rfl (by repeat' (first | exact True.intro | refine ⟨⟨_, _, rfl, rfl, Wk.rfl⟩, ?_⟩ | refine ⟨⟨_, _, accV_ren rfl, rfl, Wk.rfl⟩, ?_⟩ | refine ⟨⟨_, _, accV_ren rfl, rfl, Wk.acc0⟩, ?_⟩ | refine ⟨⟨_, _, rfl, rfl, Wk.uncap⟩, ?_⟩ | refine ⟨⟨_, _, rfl, rfl, Wk.nil⟩, ?_⟩)) (by repeat' (first | exact True.intro | refine ⟨⟨_, _, _, rfl, rfl, rfl, WkO.rfl⟩, ?_⟩ | refine HeapOK.acc rfl rfl ?_ | refine HeapOK.es rfl rfl ?_)) (e' := [(2, .c (.ptr 0 0)), (4, .c (.ptr 1 0)), (5, .c (.ptr 2 0))]) (h' := hRm hd (r.ents (j + 1)).2 (r.ents (j + 1)).1)
    exact M.exit (M.go rfl (M.done hq))
  | succ rem ih =>
    intro j hj
    have hw2 : IntKind.i64.wrap (((j + 1 : Nat) : Int) + 1) = ((j + 1 + 1 : Nat) : Int) := by rw [wr64 (by omega) (by omega)]; simp
    have hln : (entP (r.ents (j + 1)).1).length = j + 1 := by rw [entP_len, RS.ents_len]
    have ho := RS.ents_ok hr (j + 1)
    have ih' := ih (j + 1) (by omega)
    obtain ⟨s, hs⟩ : ∃ s, s = (r.ents (j + 1)).2 := ⟨_, rfl⟩
    obtain ⟨l, hl⟩ : ∃ l, l = (r.ents (j + 1)).1 := ⟨_, rfl⟩
    rw [show r.ents (j + 1 + 1) = ((r.ents (j + 1)).1 ++ [(r.ents (j + 1)).2.ent.1], (r.ents (j + 1)).2.ent.2) from rfl] at ih'
    rw [← hs] at ho ih' ⊢
    rw [← hl] at hln ih' ⊢
    have htb := RS.text_b ho.num.num.num
    have hu8 := u8P_n2 htb.2
    obtain ⟨e0, le, hle⟩ : ∃ e0 le, entP l = e0 :: le := by
      cases h : entP l with
      | nil => rw [h] at hln; simp at hln
      | cons a b => exact ⟨_, _, rfl⟩
    unfold hRm at ih' ⊢
    rw [show entP (l ++ [s.ent.1]) = entP l ++ [s.ent.1.pc] by simp [entP]] at ih'
    rw [hle] at hln ih' ⊢
    refine M.round (M.go rfl ?_)
    refine M.cond rfl (fun hc => ?_) (fun hc => absurd (by omega) hc)
    refine M.go rfl (M.regF (MF.go rfl ?_))
    refine MF.use (by first | exact True.intro | exact rfl) (rnum_spec s ho) [(0, 1)] rfl rfl rfl (by repeat' (first | exact True.intro | refine ⟨⟨_, _, _, rfl, rfl, rfl, WkO.rfl⟩, ?_⟩ | refine HeapOK.acc rfl rfl ?_ | refine HeapOK.es rfl rfl ?_)) rfl rfl (MF.go rfl ?_)
    refine MF.use (by first | exact True.intro | exact rfl) (rnum_spec s.num.2 ho.num) [(0, 1)] rfl rfl rfl (by repeat' (first | exact True.intro | refine ⟨⟨_, _, _, rfl, rfl, rfl, WkO.rfl⟩, ?_⟩ | refine HeapOK.acc rfl rfl ?_ | refine HeapOK.es rfl rfl ?_)) rfl rfl (MF.go rfl ?_)
    refine MF.use (by first | exact True.intro | exact rfl) (rnum_spec s.num.2.num.2 ho.num.num) [(0, 1)] rfl rfl rfl (by repeat' (first | exact True.intro | refine ⟨⟨_, _, _, rfl, rfl, rfl, WkO.rfl⟩, ?_⟩ | refine HeapOK.acc rfl rfl ?_ | refine HeapOK.es rfl rfl ?_)) rfl rfl (MF.go rfl ?_)
    refine MF.use (by first | exact True.intro | exact rfl) (rtext_spec s.num.2.num.2.num.2 ho.num.num.num) [(0, 1)] rfl rfl rfl (by repeat' (first | exact True.intro | refine ⟨⟨_, _, _, rfl, rfl, rfl, WkO.rfl⟩, ?_⟩ | refine HeapOK.acc rfl rfl ?_ | refine HeapOK.es rfl rfl ?_)) rfl rfl (MF.go rfl ?_)
    rw [hu8]
    refine MF.go rfl ?_
    refine MF.op trivial (SOp.appA rfl rfl rfl (.own rfl rfl) (by simp) (by rw [hln]; simp; omega)) (MF.go rfl ?_)
    refine MF.nil mixed (Fnl.pairs ?_) rfl ⟨⟨stepX_ok rfl, stepX_ok rfl, stepX_ok rfl, stepX_ok rfl, stepX_ok rfl, trivial⟩, trivial⟩ (M.go rfl ?_)
    · intro c hc1 d hd1 hf ha hh
      simp only [List.mem_cons, List.not_mem_nil, or_false] at hc1 hd1
      rcases hc1 with rfl | rfl | rfl | rfl <;> rcases hd1 with rfl | rfl | rfl | rfl
      · exact ⟨rfl, rfl⟩
      · exact absurd (show (88 : Nat) = 87 from hf) (by decide)
      · exact absurd (show (88 : Nat) = 87 from hf) (by decide)
      · exact absurd (show (88 : Nat) = 87 from hf) (by decide)
      · exact absurd (show (87 : Nat) = 88 from hf) (by decide)
      · exact ⟨rfl, rfl⟩
      · exact num_recs (p := 1) (r1 := s.num.2.num.2) (r2 := s.num.2) rfl rfl hh
      · exact num_recs (p := 1) (r1 := s.num.2.num.2) (r2 := s) rfl rfl hh
      · exact absurd (show (87 : Nat) = 88 from hf) (by decide)
      · exact num_recs (p := 1) (r1 := s.num.2) (r2 := s.num.2.num.2) rfl rfl hh
      · exact ⟨rfl, rfl⟩
      · exact num_recs (p := 1) (r1 := s.num.2) (r2 := s) rfl rfl hh
      · exact absurd (show (87 : Nat) = 88 from hf) (by decide)
      · exact num_recs (p := 1) (r1 := s) (r2 := s.num.2.num.2) rfl rfl hh
      · exact num_recs (p := 1) (r1 := s) (r2 := s.num.2) rfl rfl hh
      · exact ⟨rfl, rfl⟩
    rw [hw2]
    exact M.again (XH.ren [(0, 0), (1, 1), (2, 2), (3, 5)] ih' rfl (by repeat' (first | exact True.intro | refine ⟨⟨_, _, rfl, rfl, Wk.rfl⟩, ?_⟩ | refine ⟨⟨_, _, accV_ren rfl, rfl, Wk.rfl⟩, ?_⟩ | refine ⟨⟨_, _, accV_ren rfl, rfl, Wk.acc0⟩, ?_⟩ | refine ⟨⟨_, _, rfl, rfl, Wk.uncap⟩, ?_⟩ | refine ⟨⟨_, _, rfl, rfl, Wk.nil⟩, ?_⟩)) (by repeat' (first | exact True.intro | refine ⟨⟨_, _, _, rfl, rfl, rfl, WkO.rfl⟩, ?_⟩ | refine HeapOK.acc rfl rfl ?_ | refine HeapOK.es rfl rfl ?_)))
def RS.msgH (r : RS) : List Int × RS := r.nums 7
def RS.msg (r : RS) : PMsg × RS :=
  let a := r.nums 7
  let c := a.2.count
  let e := c.2.ents c.1.toNat
  let f := e.2.flag
  let h := f.2.num
  let k := h.2.conf
  let t := k.2.text
  let q := t.2.nums 3
  (⟨a.1.getD 0 0, a.1.getD 1 0, a.1.getD 2 0, a.1.getD 3 0, a.1.getD 4 0, a.1.getD 5 0, a.1.getD 6 0, true, e.1, f.1, h.1, true, k.1, t.1.1, n2 t.1.2, q.1.getD 0 0, q.1.getD 1 0, q.1.getD 2 0⟩, q.2)
theorem Acc_row {m : Nat} {x : PC} {l : List PC} (h : m = (x :: l).length) (s b : Nat) : Wk (.c (.sl b 0 m s none)) (.c (.acc b s (x :: l))) := by subst h; exact Wk.of rfl
def PMsg.zero : PMsg := ⟨0, 0, 0, 0, 0, 0, 0, true, [], false, 0, true, [], true, [], 0, 0, 0⟩
def RS.msgR (r : RS) : PMsg × Int := if (!r.msg.2.bad && r.msg.2.xs.isEmpty) = true then (r.msg.1, 0) else (PMsg.zero, 3)
theorem nums7 (r : RS) : (r.nums 7).1 = [r.num.1, r.num.2.num.1, r.num.2.num.2.num.1, r.num.2.num.2.num.2.num.1, r.num.2.num.2.num.2.num.2.num.1, r.num.2.num.2.num.2.num.2.num.2.num.1, r.num.2.num.2.num.2.num.2.num.2.num.2.num.1] ∧ (r.nums 7).2 = r.num.2.num.2.num.2.num.2.num.2.num.2.num.2 := ⟨rfl, rfl⟩
set_option maxHeartbeats 1000000 in
theorem ReadMsg_spec (z : Bool) (xs : List Int) (c : Option Nat) (hl : xs.length ≤ 1000000000000) (hb : Bytes xs) : CallS Try.prog base 60 [.c (.p (.tz z 1 (u8P xs) c))] ⟨[], 0⟩ (.tup [(RS.msgR ⟨z, xs, false⟩).1.v, .c (.p (.int .i64 (RS.msgR ⟨z, xs, false⟩).2))]) ⟨[], 0⟩ := by
  obtain ⟨r, hrr⟩ : ∃ r, r = (⟨z, xs, false⟩ : RS) := ⟨_, rfl⟩
  have hr : r.ok := by rw [hrr]; exact ⟨hl, hb, fun h => (by cases h), fun h => (by cases h)⟩
  rw [← hrr]
  refine CallS.of noNG lRm.2 rfl (M.start (M.go rfl ?_))
  have hrd := rread_spec (base := base) z xs c hl
  rw [← hrr] at hrd
  refine M.use (by first | exact True.intro | exact rfl) (hrd) [] rfl rfl rfl (by repeat' (first | exact True.intro | refine ⟨⟨_, _, _, rfl, rfl, rfl, WkO.rfl⟩, ?_⟩ | refine HeapOK.acc rfl rfl ?_ | refine HeapOK.es rfl rfl ?_)) rfl rfl ?_
  refine M.go rfl ?_
  refine M.use (by first | exact True.intro | exact rfl) (rnum_spec r hr) [(0, 1)] rfl rfl rfl (by repeat' (first | exact True.intro | refine ⟨⟨_, _, _, rfl, rfl, rfl, WkO.rfl⟩, ?_⟩ | refine HeapOK.acc rfl rfl ?_ | refine HeapOK.es rfl rfl ?_)) rfl rfl ?_
  refine M.go rfl ?_
  refine M.use (by first | exact True.intro | exact rfl) (rnum_spec r.num.2 hr.num) [(0, 1)] rfl rfl rfl (by repeat' (first | exact True.intro | refine ⟨⟨_, _, _, rfl, rfl, rfl, WkO.rfl⟩, ?_⟩ | refine HeapOK.acc rfl rfl ?_ | refine HeapOK.es rfl rfl ?_)) rfl rfl ?_
  refine M.go rfl ?_
  refine M.use (by first | exact True.intro | exact rfl) (rnum_spec r.num.2.num.2 hr.num.num) [(0, 1)] rfl rfl rfl (by repeat' (first | exact True.intro | refine ⟨⟨_, _, _, rfl, rfl, rfl, WkO.rfl⟩, ?_⟩ | refine HeapOK.acc rfl rfl ?_ | refine HeapOK.es rfl rfl ?_)) rfl rfl ?_
  refine M.go rfl ?_
  refine M.use (by first | exact True.intro | exact rfl) (rnum_spec r.num.2.num.2.num.2 hr.num.num.num) [(0, 1)] rfl rfl rfl (by repeat' (first | exact True.intro | refine ⟨⟨_, _, _, rfl, rfl, rfl, WkO.rfl⟩, ?_⟩ | refine HeapOK.acc rfl rfl ?_ | refine HeapOK.es rfl rfl ?_)) rfl rfl ?_
  refine M.go rfl ?_
  refine M.use (by first | exact True.intro | exact rfl) (rnum_spec r.num.2.num.2.num.2.num.2 hr.num.num.num.num) [(0, 1)] rfl rfl rfl (by repeat' (first | exact True.intro | refine ⟨⟨_, _, _, rfl, rfl, rfl, WkO.rfl⟩, ?_⟩ | refine HeapOK.acc rfl rfl ?_ | refine HeapOK.es rfl rfl ?_)) rfl rfl ?_
  refine M.go rfl ?_
  refine M.use (by first | exact True.intro | exact rfl) (rnum_spec r.num.2.num.2.num.2.num.2.num.2 hr.num.num.num.num.num) [(0, 1)] rfl rfl rfl (by repeat' (first | exact True.intro | refine ⟨⟨_, _, _, rfl, rfl, rfl, WkO.rfl⟩, ?_⟩ | refine HeapOK.acc rfl rfl ?_ | refine HeapOK.es rfl rfl ?_)) rfl rfl ?_
  refine M.go rfl ?_
  refine M.use (by first | exact True.intro | exact rfl) (rnum_spec r.num.2.num.2.num.2.num.2.num.2.num.2 hr.num.num.num.num.num.num) [(0, 1)] rfl rfl rfl (by repeat' (first | exact True.intro | refine ⟨⟨_, _, _, rfl, rfl, rfl, WkO.rfl⟩, ?_⟩ | refine HeapOK.acc rfl rfl ?_ | refine HeapOK.es rfl rfl ?_)) rfl rfl ?_
  refine M.go rfl ?_
  obtain ⟨a, ha⟩ : ∃ a, a = (r.nums 7).2 := ⟨_, rfl⟩
  have hao : a.ok := by rw [ha]; exact RS.nums_ok hr 7
  have ha' : a = r.num.2.num.2.num.2.num.2.num.2.num.2.num.2 := ha
  obtain ⟨hd, hhd⟩ : ∃ hd, hd = (r.nums 7).1 := ⟨_, rfl⟩
  have hdI : ∀ n ∈ hd, True := fun _ _ => trivial
  rw [← ha']
  refine M.use (by first | exact True.intro | exact rfl) (count_spec a hao) [(0, 1)] rfl rfl rfl (by repeat' (first | exact True.intro | refine ⟨⟨_, _, _, rfl, rfl, rfl, WkO.rfl⟩, ?_⟩ | refine HeapOK.acc rfl rfl ?_ | refine HeapOK.es rfl rfl ?_)) rfl rfl ?_
  have hc := a.count_le
  have hco := hao.count
  have hcl := hco.len
  obtain ⟨k, hk⟩ : ∃ k : Nat, a.count.1 = k := ⟨a.count.1.toNat, by omega⟩
  obtain ⟨s, hs⟩ : ∃ s, s = a.count.2 := ⟨_, rfl⟩
  rw [← hs] at hco hcl ⊢
  rw [hk]
  have hmsg : r.msg = (⟨hd.getD 0 0, hd.getD 1 0, hd.getD 2 0, hd.getD 3 0, hd.getD 4 0, hd.getD 5 0, hd.getD 6 0, true, (s.ents k).1, (s.ents k).2.flag.1, (s.ents k).2.flag.2.num.1, true, (s.ents k).2.flag.2.num.2.conf.1, (s.ents k).2.flag.2.num.2.conf.2.text.1.1, n2 (s.ents k).2.flag.2.num.2.conf.2.text.1.2, ((s.ents k).2.flag.2.num.2.conf.2.text.2.nums 3).1.getD 0 0, ((s.ents k).2.flag.2.num.2.conf.2.text.2.nums 3).1.getD 1 0, ((s.ents k).2.flag.2.num.2.conf.2.text.2.nums 3).1.getD 2 0⟩, ((s.ents k).2.flag.2.num.2.conf.2.text.2.nums 3).2) := by
    simp only [RS.msg, ← ha, ← hhd, ← hs, hk, Int.toNat_natCast]
  refine M.go rfl ?_
  have hso := RS.ents_ok hco k
  obtain ⟨v, hv⟩ : ∃ v, v = (s.ents k).2 := ⟨_, rfl⟩
  obtain ⟨l, hl2⟩ : ∃ l, l = (s.ents k).1 := ⟨_, rfl⟩
  have hll : l.length = k := by rw [hl2, RS.ents_len]
  rw [← hv] at hso hmsg
  rw [← hl2] at hmsg
  have hk1 : k ≤ s.xs.length := by rw [hs]; omega
  refine M.ren [(0, 0), (1, 1), (2, 2)] ?_ trivial rfl (by repeat' (first | exact True.intro | refine ⟨⟨_, _, rfl, rfl, Wk.rfl⟩, ?_⟩ | refine ⟨⟨_, _, accV_ren rfl, rfl, Wk.rfl⟩, ?_⟩ | refine ⟨⟨_, _, accV_ren rfl, rfl, Wk.acc0⟩, ?_⟩ | refine ⟨⟨_, _, rfl, rfl, Wk.uncap⟩, ?_⟩ | refine ⟨⟨_, _, rfl, rfl, Wk.nil⟩, ?_⟩)) ?_ (e' := [(2, .c (.ptr 0 0)), (4, .c (.ptr 1 0)), (5, .c (.ptr 2 0)), (24, .c (.p (.int .i64 k))), (25, .c (.p (.int .i64 0)))]) (h' := ⟨[(2, some (.row (hrow hd (.p (.tz true 0 [] none))) true)), (1, some (.row (rrow s) true)), (0, some (.row zrow true))], 3⟩)
  rotate_left
  · exact ⟨⟨_, _, _, rfl, rfl, rfl, WkO.row (by rw [hhd]; exact ⟨Wk.rfl, Wk.rfl, Wk.rfl, Wk.rfl, Wk.rfl, Wk.rfl, Wk.rfl, Wk.rfl, Wk.rfl, Wk.rfl, Wk.rfl, Wk.rfl, Wk.rfl, Wk.rfl, Wk.rfl, trivial⟩)⟩, (by repeat' (first | exact True.intro | refine ⟨⟨_, _, _, rfl, rfl, rfl, WkO.rfl⟩, ?_⟩ | refine HeapOK.acc rfl rfl ?_ | refine HeapOK.es rfl rfl ?_))⟩
  refine M.midX (.exit 0) [(2, .c (.ptr 0 0)), (4, .c (.ptr 1 0)), (5, .c (.ptr 2 0))] ⟨[(2, some (.row (hrow hd (.p (.tz true 4 (entP l) none))) true)), (1, some (.row (rrow v) true)), (0, some (.row zrow true))], 3⟩ ?_ ?_
  · cases k with
    | zero =>
      obtain rfl : l = [] := List.eq_nil_of_length_eq_zero hll
      have : v = s := hv
      subst this
      refine M.loop (M.round (M.go rfl ?_))
      refine M.cond rfl (fun hc => absurd hc (by decide)) (fun hc => ?_)
      refine M.exit (M.go rfl (M.done ⟨rfl, ?_⟩))
      exact Sh.ren [(0, 0), (1, 1), (2, 2)] rfl (by repeat' (first | exact True.intro | refine ⟨⟨_, _, rfl, rfl, Wk.rfl⟩, ?_⟩ | refine ⟨⟨_, _, accV_ren rfl, rfl, Wk.rfl⟩, ?_⟩ | refine ⟨⟨_, _, accV_ren rfl, rfl, Wk.acc0⟩, ?_⟩ | refine ⟨⟨_, _, rfl, rfl, Wk.uncap⟩, ?_⟩ | refine ⟨⟨_, _, rfl, rfl, Wk.nil⟩, ?_⟩)) ⟨⟨_, _, _, rfl, rfl, rfl, WkO.row ⟨Wk.rfl, Wk.rfl, Wk.rfl, Wk.rfl, Wk.rfl, Wk.rfl, Wk.rfl, Wk.nil, Wk.rfl, Wk.rfl, Wk.rfl, Wk.rfl, Wk.rfl, Wk.rfl, Wk.rfl, trivial⟩⟩, (by repeat' (first | exact True.intro | refine ⟨⟨_, _, _, rfl, rfl, rfl, WkO.rfl⟩, ?_⟩ | refine HeapOK.acc rfl rfl ?_ | refine HeapOK.es rfl rfl ?_))⟩
    | succ k =>
      have hw2 : IntKind.i64.wrap ((0 : Int) + 1) = ((0 + 1 : Nat) : Int) := by decide
      have hne : entP l ≠ [] := by intro e; have := congrArg List.length e; rw [entP_len, hll] at this; simp at this
      have htb := RS.text_b hco.num.num.num
      have hu8 := u8P_n2 htb.2
      refine M.loop (M.round (M.go rfl ?_))
      refine M.cond rfl (fun hc => ?_) (fun hc => absurd (by push_cast; omega) hc)
      refine M.go rfl (M.regF (MF.go rfl ?_))
      refine MF.use (by first | exact True.intro | exact rfl) (rnum_spec s hco) [(0, 1)] rfl rfl rfl (by repeat' (first | exact True.intro | refine ⟨⟨_, _, _, rfl, rfl, rfl, WkO.rfl⟩, ?_⟩ | refine HeapOK.acc rfl rfl ?_ | refine HeapOK.es rfl rfl ?_)) rfl rfl (MF.go rfl ?_)
      refine MF.use (by first | exact True.intro | exact rfl) (rnum_spec s.num.2 hco.num) [(0, 1)] rfl rfl rfl (by repeat' (first | exact True.intro | refine ⟨⟨_, _, _, rfl, rfl, rfl, WkO.rfl⟩, ?_⟩ | refine HeapOK.acc rfl rfl ?_ | refine HeapOK.es rfl rfl ?_)) rfl rfl (MF.go rfl ?_)
      refine MF.use (by first | exact True.intro | exact rfl) (rnum_spec s.num.2.num.2 hco.num.num) [(0, 1)] rfl rfl rfl (by repeat' (first | exact True.intro | refine ⟨⟨_, _, _, rfl, rfl, rfl, WkO.rfl⟩, ?_⟩ | refine HeapOK.acc rfl rfl ?_ | refine HeapOK.es rfl rfl ?_)) rfl rfl (MF.go rfl ?_)
      refine MF.use (by first | exact True.intro | exact rfl) (rtext_spec s.num.2.num.2.num.2 hco.num.num.num) [(0, 1)] rfl rfl rfl (by repeat' (first | exact True.intro | refine ⟨⟨_, _, _, rfl, rfl, rfl, WkO.rfl⟩, ?_⟩ | refine HeapOK.acc rfl rfl ?_ | refine HeapOK.es rfl rfl ?_)) rfl rfl (MF.go rfl ?_)
      rw [hu8]
      refine MF.go rfl ?_
      refine MF.op trivial (SOp.appN rfl rfl (.own rfl rfl) (by simp) (by simp)) (MF.go rfl ?_)
      refine MF.nil mixed (Fnl.pairs ?_) rfl ⟨⟨stepX_ok rfl, stepX_ok rfl, stepX_ok rfl, stepX_ok rfl, stepX_ok rfl, trivial⟩, trivial⟩ (M.go rfl ?_)
      · intro c hc1 d hd1 hf ha hh
        simp only [List.mem_cons, List.not_mem_nil, or_false] at hc1 hd1
        rcases hc1 with rfl | rfl | rfl | rfl <;> rcases hd1 with rfl | rfl | rfl | rfl
        · exact ⟨rfl, rfl⟩
        · exact absurd (show (88 : Nat) = 87 from hf) (by decide)
        · exact absurd (show (88 : Nat) = 87 from hf) (by decide)
        · exact absurd (show (88 : Nat) = 87 from hf) (by decide)
        · exact absurd (show (87 : Nat) = 88 from hf) (by decide)
        · exact ⟨rfl, rfl⟩
        · exact num_recs (p := 1) (r1 := s.num.2.num.2) (r2 := s.num.2) rfl rfl hh
        · exact num_recs (p := 1) (r1 := s.num.2.num.2) (r2 := s) rfl rfl hh
        · exact absurd (show (87 : Nat) = 88 from hf) (by decide)
        · exact num_recs (p := 1) (r1 := s.num.2) (r2 := s.num.2.num.2) rfl rfl hh
        · exact ⟨rfl, rfl⟩
        · exact num_recs (p := 1) (r1 := s.num.2) (r2 := s) rfl rfl hh
        · exact absurd (show (87 : Nat) = 88 from hf) (by decide)
        · exact num_recs (p := 1) (r1 := s) (r2 := s.num.2.num.2) rfl rfl hh
        · exact num_recs (p := 1) (r1 := s) (r2 := s.num.2) rfl rfl hh
        · exact ⟨rfl, rfl⟩
      rw [hw2]
      have h1 := rm_loop (base := base) hd s hco (k + 1) (by omega)
      refine M.again (XH.ren [(0, 0), (1, 1), (2, 2), (3, 4)] (h1 _ ?_ k 0 (by omega)) rfl (by repeat' (first | exact True.intro | refine ⟨⟨_, _, rfl, rfl, Wk.rfl⟩, ?_⟩ | refine ⟨⟨_, _, accV_ren rfl, rfl, Wk.rfl⟩, ?_⟩ | refine ⟨⟨_, _, accV_ren rfl, rfl, Wk.acc0⟩, ?_⟩ | refine ⟨⟨_, _, rfl, rfl, Wk.uncap⟩, ?_⟩ | refine ⟨⟨_, _, rfl, rfl, Wk.nil⟩, ?_⟩)) ?_)
      · refine ⟨rfl, ?_⟩
        unfold hRm
        rw [← hl2, ← hv]
        refine Sh.wkH (b0 := 2) (o' := .row (hrow hd (.sl 3 0 (entP l).length 4 none)) true) rfl rfl (WkO.row ⟨Wk.rfl, Wk.rfl, Wk.rfl, Wk.rfl, Wk.rfl, Wk.rfl, Wk.rfl, Wk.accS hne, Wk.rfl, Wk.rfl, Wk.rfl, Wk.rfl, Wk.rfl, Wk.rfl, Wk.rfl, trivial⟩) ?_
        refine Sh.freezeR (b0 := 2) (o := 7) (b := 3) rfl rfl rfl rfl rfl rfl ?_
        exact Sh.ren [(0, 0), (1, 1), (2, 2)] rfl (by repeat' (first | exact True.intro | refine ⟨⟨_, _, rfl, rfl, Wk.rfl⟩, ?_⟩ | refine ⟨⟨_, _, accV_ren rfl, rfl, Wk.rfl⟩, ?_⟩ | refine ⟨⟨_, _, accV_ren rfl, rfl, Wk.acc0⟩, ?_⟩ | refine ⟨⟨_, _, rfl, rfl, Wk.uncap⟩, ?_⟩ | refine ⟨⟨_, _, rfl, rfl, Wk.nil⟩, ?_⟩)) ⟨⟨_, _, _, rfl, rfl, rfl, WkO.row ⟨Wk.rfl, Wk.rfl, Wk.rfl, Wk.rfl, Wk.rfl, Wk.rfl, Wk.rfl, Wk.some hne, Wk.rfl, Wk.rfl, Wk.rfl, Wk.rfl, Wk.rfl, Wk.rfl, Wk.rfl, trivial⟩⟩, (by repeat' (first | exact True.intro | refine ⟨⟨_, _, _, rfl, rfl, rfl, WkO.rfl⟩, ?_⟩ | refine HeapOK.acc rfl rfl ?_ | refine HeapOK.es rfl rfl ?_))⟩
      · unfold hRm
        exact ⟨⟨_, _, _, rfl, rfl, rfl, WkO.rfl⟩, ⟨_, _, _, rfl, rfl, rfl, WkO.row ⟨Wk.rfl, Wk.rfl, Wk.rfl, Wk.rfl, Wk.rfl, Wk.rfl, Wk.rfl, Wk.of rfl, Wk.rfl, Wk.rfl, Wk.rfl, Wk.rfl, Wk.rfl, Wk.rfl, Wk.rfl, trivial⟩⟩, (by repeat' (first | exact True.intro | refine ⟨⟨_, _, _, rfl, rfl, rfl, WkO.rfl⟩, ?_⟩ | refine HeapOK.acc rfl rfl ?_ | refine HeapOK.es rfl rfl ?_))⟩
  · refine M.go rfl ?_
    have o1 := hso.flag
    have o2 := o1.num
    have o3 := o2.conf
    have o4 := o3.text
    refine M.use (by first | exact True.intro | exact rfl) (rflag_spec v hso) [(0, 1)] rfl rfl rfl (by repeat' (first | exact True.intro | refine ⟨⟨_, _, _, rfl, rfl, rfl, WkO.rfl⟩, ?_⟩ | refine HeapOK.acc rfl rfl ?_ | refine HeapOK.es rfl rfl ?_)) rfl rfl ?_
    refine M.go rfl ?_
    refine M.use (by first | exact True.intro | exact rfl) (rnum_spec v.flag.2 o1) [(0, 1)] rfl rfl rfl (by repeat' (first | exact True.intro | refine ⟨⟨_, _, _, rfl, rfl, rfl, WkO.rfl⟩, ?_⟩ | refine HeapOK.acc rfl rfl ?_ | refine HeapOK.es rfl rfl ?_)) rfl rfl ?_
    refine M.go rfl ?_
    refine M.use (by first | exact True.intro | exact rfl) (gc_spec v.flag.2.num.2 o2) [(0, 1)] rfl rfl rfl (by repeat' (first | exact True.intro | refine ⟨⟨_, _, _, rfl, rfl, rfl, WkO.rfl⟩, ?_⟩ | refine HeapOK.acc rfl rfl ?_ | refine HeapOK.es rfl rfl ?_)) rfl rfl ?_
    refine M.go rfl ?_
    refine M.use (by first | exact True.intro | exact rfl) (rtext_spec v.flag.2.num.2.conf.2 o3) [(0, 1)] rfl rfl rfl (by repeat' (first | exact True.intro | refine ⟨⟨_, _, _, rfl, rfl, rfl, WkO.rfl⟩, ?_⟩ | refine HeapOK.acc rfl rfl ?_ | refine HeapOK.es rfl rfl ?_)) rfl rfl ?_
    rw [u8P_n2 (RS.text_b o3).2]
    refine M.go rfl ?_
    refine M.use (by first | exact True.intro | exact rfl) (rnum_spec v.flag.2.num.2.conf.2.text.2 o4) [(0, 1)] rfl rfl rfl (by repeat' (first | exact True.intro | refine ⟨⟨_, _, _, rfl, rfl, rfl, WkO.rfl⟩, ?_⟩ | refine HeapOK.acc rfl rfl ?_ | refine HeapOK.es rfl rfl ?_)) rfl rfl ?_
    refine M.go rfl ?_
    refine M.use (by first | exact True.intro | exact rfl) (rnum_spec v.flag.2.num.2.conf.2.text.2.num.2 o4.num) [(0, 1)] rfl rfl rfl (by repeat' (first | exact True.intro | refine ⟨⟨_, _, _, rfl, rfl, rfl, WkO.rfl⟩, ?_⟩ | refine HeapOK.acc rfl rfl ?_ | refine HeapOK.es rfl rfl ?_)) rfl rfl ?_
    refine M.go rfl ?_
    refine M.use (by first | exact True.intro | exact rfl) (rnum_spec v.flag.2.num.2.conf.2.text.2.num.2.num.2 o4.num.num) [(0, 1)] rfl rfl rfl (by repeat' (first | exact True.intro | refine ⟨⟨_, _, _, rfl, rfl, rfl, WkO.rfl⟩, ?_⟩ | refine HeapOK.acc rfl rfl ?_ | refine HeapOK.es rfl rfl ?_)) rfl rfl ?_
    refine M.go rfl ?_
    refine M.use (by first | exact True.intro | exact rfl) (swhole_spec v.flag.2.num.2.conf.2.text.2.num.2.num.2.num.2) [(0, 1)] rfl rfl rfl (by repeat' (first | exact True.intro | refine ⟨⟨_, _, _, rfl, rfl, rfl, WkO.rfl⟩, ?_⟩ | refine HeapOK.acc rfl rfl ?_ | refine HeapOK.es rfl rfl ?_)) rfl rfl ?_
    refine M.go rfl ?_
    have h2 : r.msg.2 = v.flag.2.num.2.conf.2.text.2.num.2.num.2.num.2 := by rw [hmsg]; rfl
    rw [RS.msgR, h2]
    refine M.condB rfl (fun hc => ?_) (fun hc => ?_)
    · rw [if_neg (by intro h; rw [h] at hc; cases hc)]
      refine M.go rfl ?_
      exact M.ret (M.go rfl (M.done (finQ.ret [] rfl rfl rfl (Wk.t2 (Wk.agg ⟨Wk.rfl, Wk.rfl, Wk.rfl, Wk.rfl, Wk.rfl, Wk.rfl, Wk.rfl, Wk.nil, Wk.b1 rfl, Wk.rfl, Wk.nil, Wk.nil, Wk.rfl, Wk.rfl, Wk.rfl, trivial⟩) Wk.rfl) (by repeat' (first | exact True.intro | refine ⟨⟨_, _, _, rfl, rfl, rfl, WkO.rfl⟩, ?_⟩ | refine HeapOK.acc rfl rfl ?_ | refine HeapOK.es rfl rfl ?_)))))
    · rw [if_pos (by cases h : (!v.flag.2.num.2.conf.2.text.2.num.2.num.2.num.2.bad && v.flag.2.num.2.conf.2.text.2.num.2.num.2.num.2.xs.isEmpty) <;> simp_all), hmsg]
      refine M.go rfl ?_
      exact M.ret (M.go rfl (M.done (finQ.ret [] rfl rfl rfl (Wk.t2 (Wk.agg ⟨Wk.rfl, Wk.rfl, Wk.rfl, Wk.rfl, Wk.rfl, Wk.rfl, Wk.rfl, Wk.rfl, Wk.rfl, Wk.rfl, Wk.rfl, Wk.rfl, Wk.rfl, Wk.rfl, Wk.rfl, trivial⟩) Wk.rfl) (by repeat' (first | exact True.intro | refine ⟨⟨_, _, _, rfl, rfl, rfl, WkO.rfl⟩, ?_⟩ | refine HeapOK.acc rfl rfl ?_ | refine HeapOK.es rfl rfl ?_)))))
end Go.Proofs.Yteegdhfekemhmaa

namespace Go.Proofs.Yteegdhfekemhmaa
open Go.RowKit Sim Go Sym
set_option maxRecDepth 100000
set_option linter.unusedVariables false
set_option linter.unusedSimpArgs false
variable {base : Nat}
theorem inPl (l : List Int) : (inP l).length = l.length := by simp [inP]
def incB : Int → List Int → Bool
  | _, [] => true
  | p, b :: l => (decide (p < b) && decide (b ≤ 7)) && incB b l
theorem incB_app : ∀ (l r : List Int) (p : Int), incB p (l ++ r) = (incB p l && incB (l.getLast?.getD p) r)
  | [], r, p => by simp [incB]
  | b :: l, r, p => by
    have : (b :: l).getLast?.getD p = l.getLast?.getD b := by cases l <;> simp [List.getLast?_cons]
    rw [List.cons_append, incB, incB, incB_app l r b, this]; simp only [Bool.and_assoc]
theorem incB_last : ∀ (l : List Int) (p : Int), incB p l = true → p ≤ l.getLast?.getD p
  | [], p, _ => by simp
  | b :: l, p, h => by
    simp only [incB, Bool.and_eq_true, decide_eq_true_eq] at h
    have := incB_last l b h.2
    have e : (b :: l).getLast?.getD p = l.getLast?.getD b := by cases l <;> simp [List.getLast?_cons]
    rw [e]; omega
def mayI (l : List Int) : Bool := incB 0 l && !l.isEmpty
theorem incB_len : ∀ (l : List Int) (p : Int), p ≤ 7 → incB p l = true → p + l.length ≤ 7
  | [], p, h, _ => by simpa using h
  | b :: l, p, h, hi => by
    simp only [incB, Bool.and_eq_true, decide_eq_true_eq] at hi
    have := incB_len l b hi.1.2 hi.2
    simp only [List.length_cons]
    omega
noncomputable def lMbr : {F : LF // lowerF Try.prog 103 = some F} := ⟨_, rfl⟩
theorem mbr_loop (z : Bool) (c : Option Nat) (l : List Int) (hl : l.length ≤ 100000000000000) (Q : QX) (hq : incB 0 l = true → Q (.exit 0) [(0, .c (.p (.tz z 1 (inP l) c)))] ⟨[], 0⟩) (hr : incB 0 l = false → Q .ret [(2, .c (.p (.bool false)))] ⟨[], 0⟩) :
    ∀ (rest pre : List Int), l = pre ++ rest → incB 0 pre = true → XH Try.prog base lMbr.1.n 0 (lMbr.1.c.lp 0) [(0, .c (.p (.tz z 1 (inP l) c))), (3, .c (.p (.int .i64 pre.length)))] ⟨[], 0⟩ Q := by
  intro rest
  induction rest with
  | nil =>
    intro pre hp hm
    refine M.round (M.go rfl ?_)
    simp at hp
    subst hp
    refine M.cond rfl (fun hc => ?_) (fun hc => ?_)
    · rw [inPl] at hc; omega
    · refine M.ren [] ?_ trivial rfl (by repeat' (first | exact True.intro | refine ⟨⟨_, _, rfl, rfl, Wk.rfl⟩, ?_⟩ | refine ⟨⟨_, _, accV_ren rfl, rfl, Wk.rfl⟩, ?_⟩ | refine ⟨⟨_, _, accV_ren rfl, rfl, Wk.acc0⟩, ?_⟩ | refine ⟨⟨_, _, rfl, rfl, Wk.uncap⟩, ?_⟩ | refine ⟨⟨_, _, rfl, rfl, Wk.nil⟩, ?_⟩)) (by repeat' (first | exact True.intro | refine ⟨⟨_, _, _, rfl, rfl, rfl, WkO.rfl⟩, ?_⟩ | refine HeapOK.acc rfl rfl ?_ | refine HeapOK.es rfl rfl ?_)) (e' := [(0, .c (.p (.tz z 1 (inP l) c)))]) (h' := ⟨[], 0⟩)
      exact M.exit (M.go rfl (M.done (hq hm)))
  | cons b rest ih =>
    intro pre hp hm
    have hlen : (inP l).length = pre.length + (rest.length + 1) := by rw [hp, inPl]; simp
    have hll : pre.length + rest.length < 100000000000000 := by rw [hp] at hl; simp at hl; omega
    have hpos : 0 ≤ pre.getLast?.getD 0 := incB_last pre 0 hm
    have hw2 : IntKind.i64.wrap ((pre.length : Int) + 1) = ((pre ++ [b]).length : Int) := by rw [wr64 (by omega) (by omega)]; simp
    have hu : (inP l)[((pre.length : Int)).toNat]? = some (.int .i64 b) := by rw [hp]; exact at_app _ _ _ _
    have hmb : incB 0 l = ((decide (pre.getLast?.getD 0 < b) && decide (b ≤ 7)) && incB b rest) := by rw [hp, incB_app, hm, Bool.true_and, incB]
    refine M.round (M.go rfl ?_)
    refine M.cond rfl (fun hc => ?_) (fun hc => absurd (by rw [hlen]; omega) hc)
    refine M.go rfl (M.regD (MD.go rfl ?_))
    refine MD.op trivial (SOp.ia rfl rfl (by omega) hu) ?_
    refine MD.op trivial (SOp.ld1e rfl hu rfl rfl rfl) ?_
    by_cases h1 : b < 1
    · refine MD.op trivial (SOp.binT rfl rfl rfl (decide_eq_true h1)) (MD.go rfl (MD.nil mixed (Fnl.nodup rfl) (M.go rfl ?_)))
      refine M.ren [] ?_ trivial rfl (by repeat' (first | exact True.intro | refine ⟨⟨_, _, rfl, rfl, Wk.rfl⟩, ?_⟩ | refine ⟨⟨_, _, accV_ren rfl, rfl, Wk.rfl⟩, ?_⟩ | refine ⟨⟨_, _, accV_ren rfl, rfl, Wk.acc0⟩, ?_⟩ | refine ⟨⟨_, _, rfl, rfl, Wk.uncap⟩, ?_⟩ | refine ⟨⟨_, _, rfl, rfl, Wk.nil⟩, ?_⟩)) (by repeat' (first | exact True.intro | refine ⟨⟨_, _, _, rfl, rfl, rfl, WkO.rfl⟩, ?_⟩ | refine HeapOK.acc rfl rfl ?_ | refine HeapOK.es rfl rfl ?_)) (e' := [(2, .c (.p (.bool false)))]) (h' := ⟨[], 0⟩)
      exact M.ret (M.go rfl (M.done (hr (by rw [hmb, decide_eq_false (p := _ < b) (by omega)]; rfl))))
    · refine MD.op trivial (SOp.binF rfl rfl rfl (decide_eq_false h1)) (MD.go rfl ?_)
      refine MD.op rfl (SOp.ia rfl rfl (by omega) hu) ?_
      refine MD.op rfl (SOp.ld1e rfl hu rfl rfl rfl) ?_
      by_cases h2 : 7 < b
      · refine MD.op rfl (SOp.binT rfl rfl rfl (decide_eq_true h2)) (MD.go rfl (MD.nil mixed (Fnl.nodup rfl) (M.go rfl ?_)))
        refine M.ren [] ?_ trivial rfl (by repeat' (first | exact True.intro | refine ⟨⟨_, _, rfl, rfl, Wk.rfl⟩, ?_⟩ | refine ⟨⟨_, _, accV_ren rfl, rfl, Wk.rfl⟩, ?_⟩ | refine ⟨⟨_, _, accV_ren rfl, rfl, Wk.acc0⟩, ?_⟩ | refine ⟨⟨_, _, rfl, rfl, Wk.uncap⟩, ?_⟩ | refine ⟨⟨_, _, rfl, rfl, Wk.nil⟩, ?_⟩)) (by repeat' (first | exact True.intro | refine ⟨⟨_, _, _, rfl, rfl, rfl, WkO.rfl⟩, ?_⟩ | refine HeapOK.acc rfl rfl ?_ | refine HeapOK.es rfl rfl ?_)) (e' := [(2, .c (.p (.bool false)))]) (h' := ⟨[], 0⟩)
        exact M.ret (M.go rfl (M.done (hr (by rw [hmb, decide_eq_false (p := b ≤ 7) (by omega)]; simp))))
      · refine MD.op rfl (SOp.binF rfl rfl rfl (decide_eq_false h2)) (MD.goN 3 rfl ?_)
        by_cases h3 : 0 < (pre.length : Int)
        · refine MD.op rfl (SOp.binT rfl rfl rfl (decide_eq_true h3)) (MD.go rfl ?_)
          obtain ⟨p0, q, rfl⟩ : ∃ p0 q, pre = p0 ++ [q] := ⟨_, _, (List.dropLast_concat_getLast (by rintro rfl; simp at h3)).symm⟩
          have hw : IntKind.i64.wrap (((p0 ++ [q]).length : Int) - 1) = p0.length := by
            rw [wr64 (by simp) (by simp at hll ⊢; omega)]; simp
          have hu' : (inP l)[((p0.length : Int)).toNat]? = some (.int .i64 q) := by rw [hp, List.append_assoc]; exact at_app _ _ _ _
          have e1 : (p0 ++ [q]).getLast?.getD 0 = q := by simp
          refine MD.op rfl (SOp.ia rfl rfl (by omega) hu) ?_
          refine MD.op rfl (SOp.ld1e rfl hu rfl rfl rfl) (MD.go rfl ?_)
          rw [hw]
          refine MD.op rfl (SOp.ia rfl rfl (by omega) hu') ?_
          refine MD.op rfl (SOp.ld1e rfl hu' rfl rfl rfl) ?_
          by_cases h4 : b ≤ q
          · refine MD.op rfl (SOp.binT rfl rfl rfl (decide_eq_true h4)) (MD.go rfl (MD.nil mixed (Fnl.nodup rfl) (M.go rfl ?_)))
            refine M.ren [] ?_ trivial rfl (by repeat' (first | exact True.intro | refine ⟨⟨_, _, rfl, rfl, Wk.rfl⟩, ?_⟩ | refine ⟨⟨_, _, accV_ren rfl, rfl, Wk.rfl⟩, ?_⟩ | refine ⟨⟨_, _, accV_ren rfl, rfl, Wk.acc0⟩, ?_⟩ | refine ⟨⟨_, _, rfl, rfl, Wk.uncap⟩, ?_⟩ | refine ⟨⟨_, _, rfl, rfl, Wk.nil⟩, ?_⟩)) (by repeat' (first | exact True.intro | refine ⟨⟨_, _, _, rfl, rfl, rfl, WkO.rfl⟩, ?_⟩ | refine HeapOK.acc rfl rfl ?_ | refine HeapOK.es rfl rfl ?_)) (e' := [(2, .c (.p (.bool false)))]) (h' := ⟨[], 0⟩)
            exact M.ret (M.go rfl (M.done (hr (by rw [hmb, e1, decide_eq_false (p := q < b) (by omega)]; simp))))
          · refine MD.op rfl (SOp.binF rfl rfl rfl (decide_eq_false h4)) (MD.go rfl (MD.nil mixed (Fnl.nodup rfl) (M.go rfl ?_)))
            rw [hw2]
            refine M.again (XH.ren [] (ih ((p0 ++ [q]) ++ [b]) (by rw [hp]; simp) ?_) rfl (by repeat' (first | exact True.intro | refine ⟨⟨_, _, rfl, rfl, Wk.rfl⟩, ?_⟩ | refine ⟨⟨_, _, accV_ren rfl, rfl, Wk.rfl⟩, ?_⟩ | refine ⟨⟨_, _, accV_ren rfl, rfl, Wk.acc0⟩, ?_⟩ | refine ⟨⟨_, _, rfl, rfl, Wk.uncap⟩, ?_⟩ | refine ⟨⟨_, _, rfl, rfl, Wk.nil⟩, ?_⟩)) (by repeat' (first | exact True.intro | refine ⟨⟨_, _, _, rfl, rfl, rfl, WkO.rfl⟩, ?_⟩ | refine HeapOK.acc rfl rfl ?_ | refine HeapOK.es rfl rfl ?_)))
            rw [incB_app, hm, e1]
            have g1 : q < b := by omega
            have g2 : b ≤ 7 := by omega
            simp [incB, g1, g2]
        · refine MD.op rfl (SOp.binF rfl rfl rfl (decide_eq_false h3)) (MD.go rfl (MD.nil mixed (Fnl.nodup rfl) (M.go rfl ?_)))
          rw [hw2]
          refine M.again (XH.ren [] (ih (pre ++ [b]) (by rw [hp]; simp) ?_) rfl (by repeat' (first | exact True.intro | refine ⟨⟨_, _, rfl, rfl, Wk.rfl⟩, ?_⟩ | refine ⟨⟨_, _, accV_ren rfl, rfl, Wk.rfl⟩, ?_⟩ | refine ⟨⟨_, _, accV_ren rfl, rfl, Wk.acc0⟩, ?_⟩ | refine ⟨⟨_, _, rfl, rfl, Wk.uncap⟩, ?_⟩ | refine ⟨⟨_, _, rfl, rfl, Wk.nil⟩, ?_⟩)) (by repeat' (first | exact True.intro | refine ⟨⟨_, _, _, rfl, rfl, rfl, WkO.rfl⟩, ?_⟩ | refine HeapOK.acc rfl rfl ?_ | refine HeapOK.es rfl rfl ?_)))
          have : pre = [] := List.eq_nil_of_length_eq_zero (by omega)
          subst this
          have g1 : 0 < b := by omega
          have g2 : b ≤ 7 := by omega
          simp [incB, g1, g2]
theorem mbr_spec (z : Bool) (c : Option Nat) (l : List Int) (hl : l.length ≤ 100000000000000) : CallS Try.prog base 103 [.c (.p (.tz z 1 (inP l) c))] ⟨[], 0⟩ (.c (.p (.bs (mayI l)))) ⟨[], 0⟩ := by
  refine CallS.of noNG lMbr.2 rfl (M.start (M.go rfl ?_))
  refine M.loop (XH.ren [] (mbr_loop z c l hl _ ?_ ?_ l [] rfl rfl) rfl (by repeat' (first | exact True.intro | refine ⟨⟨_, _, rfl, rfl, Wk.rfl⟩, ?_⟩ | refine ⟨⟨_, _, accV_ren rfl, rfl, Wk.rfl⟩, ?_⟩ | refine ⟨⟨_, _, accV_ren rfl, rfl, Wk.acc0⟩, ?_⟩ | refine ⟨⟨_, _, rfl, rfl, Wk.uncap⟩, ?_⟩ | refine ⟨⟨_, _, rfl, rfl, Wk.nil⟩, ?_⟩)) (by repeat' (first | exact True.intro | refine ⟨⟨_, _, _, rfl, rfl, rfl, WkO.rfl⟩, ?_⟩ | refine HeapOK.acc rfl rfl ?_ | refine HeapOK.es rfl rfl ?_)))
  · intro hm
    refine M.q (M.go rfl ?_)
    have h7 := incB_len l 0 (by decide) hm
    refine M.dec rfl (fun h => ?_) (fun h => ?_)
    · refine M.go rfl ?_
      refine M.ret (M.go rfl (M.done (finQ.ret [] rfl rfl rfl (Wk.b1 ?_) (by repeat' (first | exact True.intro | refine ⟨⟨_, _, _, rfl, rfl, rfl, WkO.rfl⟩, ?_⟩ | refine HeapOK.acc rfl rfl ?_ | refine HeapOK.es rfl rfl ?_)))))
      rw [mayI, hm, inPl]
      rw [inPl] at h
      have g : ¬ l = [] := by rintro rfl; simp at h
      cases l with
      | nil => exact absurd rfl g
      | cons a l => simp at h7 ⊢; omega
    · refine M.go rfl ?_
      refine M.ret (M.go rfl (M.done (finQ.ret [] rfl rfl rfl (Wk.of ?_) (by repeat' (first | exact True.intro | refine ⟨⟨_, _, _, rfl, rfl, rfl, WkO.rfl⟩, ?_⟩ | refine HeapOK.acc rfl rfl ?_ | refine HeapOK.es rfl rfl ?_)))))
      rw [inPl] at h
      have g : l = [] := List.eq_nil_of_length_eq_zero (by omega)
      rw [g]; rfl
  · intro hm
    refine M.q (M.go rfl ?_)
    rw [mayI, hm]
    exact M.done (finQ.ret [] rfl rfl rfl (by first | exact Wk.rfl | exact Wk.uncap | exact Wk.nil | exact Wk.b1 rfl | exact Wk.t2 Wk.rfl (Wk.b1 rfl)) (by repeat' (first | exact True.intro | refine ⟨⟨_, _, _, rfl, rfl, rfl, WkO.rfl⟩, ?_⟩ | refine HeapOK.acc rfl rfl ?_ | refine HeapOK.es rfl rfl ?_)))
def nI (l : List Nat) : List Int := l.map fun (b : Nat) => (b : Int)
def selI (l : List Int) : List Int := if mayI l = true then l else []
def okY (l : List Nat) : Prop := l.length ≤ 100000000000 ∧ ∀ b ∈ l, b < 256
theorem byPl (l : List Nat) : (byP l).length = l.length := by simp [byP]
noncomputable def lIds : {F : LF // lowerF Try.prog 124 = some F} := ⟨_, rfl⟩
theorem ids_loop (z : Bool) (c : Option Nat) (l : List Nat) (hl : okY l) (Q : QX) (hq : Q (.exit 0) [(3, accV 0 1 (inP (nI (l.take 8))))] ⟨[(0, accO 1 (inP (nI (l.take 8))))], 1⟩) :
    ∀ (rest pre : List Nat), l = pre ++ rest → pre.length ≤ 8 → XH Try.prog base lIds.1.n 0 (lIds.1.c.lp 0) [(0, .c (.p (.tz z 1 (byP l) c))), (4, .c (.p (.int .i64 pre.length))), (3, accV 0 1 (inP (nI pre)))] ⟨[(0, accO 1 (inP (nI pre)))], 1⟩ Q := by
  intro rest
  have out : ∀ pre : List Nat, l.take 8 = pre → Q (.exit 0) [(3, accV 0 1 (inP (nI pre)))] ⟨[(0, accO 1 (inP (nI pre)))], 1⟩ := fun pre h => by rw [← h]; exact hq
  induction rest with
  | nil =>
    intro pre hp h8
    have hlen : (byP l).length = pre.length := by rw [hp, byPl]; simp
    refine M.round (M.go rfl ?_)
    refine M.dec rfl (fun hc => absurd hc (by rw [hlen]; omega)) (fun hc => ?_)
    refine M.go rfl ?_
    refine M.ren [(0, 0)] ?_ trivial rfl (by repeat' (first | exact True.intro | refine ⟨⟨_, _, rfl, rfl, Wk.rfl⟩, ?_⟩ | refine ⟨⟨_, _, accV_ren rfl, rfl, Wk.rfl⟩, ?_⟩ | refine ⟨⟨_, _, accV_ren rfl, rfl, Wk.acc0⟩, ?_⟩ | refine ⟨⟨_, _, rfl, rfl, Wk.uncap⟩, ?_⟩ | refine ⟨⟨_, _, rfl, rfl, Wk.nil⟩, ?_⟩)) (by repeat' (first | exact True.intro | refine ⟨⟨_, _, _, rfl, rfl, rfl, WkO.rfl⟩, ?_⟩ | refine HeapOK.acc rfl rfl ?_ | refine HeapOK.es rfl rfl ?_)) (e' := [(3, accV 0 1 (inP (nI pre)))]) (h' := ⟨[(0, accO 1 (inP (nI pre)))], 1⟩)
    exact M.exit (M.go rfl (M.done (out pre (by rw [hp, List.append_nil, List.take_of_length_le h8]))))
  | cons b rest ih =>
    intro pre hp h8
    have hbl : b < 256 := hl.2 b (by rw [hp]; simp)
    have hlen : (byP l).length = pre.length + (rest.length + 1) := by rw [hp, byPl]; simp
    refine M.round (M.go rfl ?_)
    refine M.dec rfl (fun hc => ?_) (fun hc => absurd (by rw [hlen]; omega) hc)
    refine M.go rfl ?_
    refine M.cond rfl (fun hc => ?_) (fun hc => ?_)
    · refine M.go rfl ?_
      have ih' := ih (pre ++ [b]) (by rw [hp]; simp) (by simp; omega)
      rw [show inP (nI (pre ++ [b])) = inP (nI pre) ++ [.int .i64 b] by simp [nI, inP]] at ih'
      have hu : (byP l)[((pre.length : Int)).toNat]? = some (.int .u8 b) := by rw [hp]; exact at_app _ _ _ _
      refine M.op trivial (SOp.ia rfl rfl (by omega) hu) ?_
      refine M.op trivial (SOp.ld1e rfl hu rfl rfl rfl) ?_
      refine M.go rfl ?_
      rw [show IntKind.i64.wrap (b : Int) = b from wr64 (by omega) (by omega)]
      refine M.acc trivial rfl rfl rfl (.own rfl rfl) (by simp) (by simp [nI, inP]; omega) ?_
      refine M.go rfl ?_
      rw [show IntKind.i64.wrap ((pre.length : Int) + 1) = ((pre ++ [b]).length : Int) by rw [wr64 (by omega) (by omega)]; simp]
      exact M.again (XH.ren [(0, 2)] ih' rfl (by repeat' (first | exact True.intro | refine ⟨⟨_, _, rfl, rfl, Wk.rfl⟩, ?_⟩ | refine ⟨⟨_, _, accV_ren rfl, rfl, Wk.rfl⟩, ?_⟩ | refine ⟨⟨_, _, accV_ren rfl, rfl, Wk.acc0⟩, ?_⟩ | refine ⟨⟨_, _, rfl, rfl, Wk.uncap⟩, ?_⟩ | refine ⟨⟨_, _, rfl, rfl, Wk.nil⟩, ?_⟩)) (by repeat' (first | exact True.intro | refine ⟨⟨_, _, _, rfl, rfl, rfl, WkO.rfl⟩, ?_⟩ | refine HeapOK.acc rfl rfl ?_ | refine HeapOK.es rfl rfl ?_)))
    · refine M.ren [(0, 0)] ?_ trivial rfl (by repeat' (first | exact True.intro | refine ⟨⟨_, _, rfl, rfl, Wk.rfl⟩, ?_⟩ | refine ⟨⟨_, _, accV_ren rfl, rfl, Wk.rfl⟩, ?_⟩ | refine ⟨⟨_, _, accV_ren rfl, rfl, Wk.acc0⟩, ?_⟩ | refine ⟨⟨_, _, rfl, rfl, Wk.uncap⟩, ?_⟩ | refine ⟨⟨_, _, rfl, rfl, Wk.nil⟩, ?_⟩)) (by repeat' (first | exact True.intro | refine ⟨⟨_, _, _, rfl, rfl, rfl, WkO.rfl⟩, ?_⟩ | refine HeapOK.acc rfl rfl ?_ | refine HeapOK.es rfl rfl ?_)) (e' := [(3, accV 0 1 (inP (nI pre)))]) (h' := ⟨[(0, accO 1 (inP (nI pre)))], 1⟩)
      exact M.exit (M.go rfl (M.done (out pre (by rw [hp, List.take_append_of_le_length (by omega), List.take_of_length_le (by omega)]))))
theorem may8 (l : List Nat) : selI (nI (l.take 8)) = selI (nI l) := by
  by_cases h : l.length ≤ 8
  · rw [List.take_of_length_le h]
  · have key : ∀ m : List Nat, 7 < m.length → selI (nI m) = [] := fun m hm => by
      rw [selI, if_neg]
      intro hi
      simp only [mayI, Bool.and_eq_true] at hi
      have := incB_len (nI m) 0 (by decide) hi.1
      simp [nI] at this
      omega
    rw [key _ (by rw [List.length_take]; omega), key _ (by omega)]
theorem ids_spec (z : Bool) (c : Option Nat) (l : List Nat) (hl : okY l) : CallS Try.prog base 124 [.c (.p (.tz z 1 (byP l) c))] ⟨[], 0⟩ (.c (.p (.tz true 1 (inP (selI (nI l))) none))) ⟨[], 0⟩ := by
  rw [← may8]
  refine CallS.of noNG lIds.2 rfl (M.start (M.go rfl ?_))
  refine M.loop (XH.ren [(0, 0)] (ids_loop z c l hl _ ?_ l [] rfl (by simp)) rfl (by repeat' (first | exact True.intro | refine ⟨⟨_, _, rfl, rfl, Wk.rfl⟩, ?_⟩ | refine ⟨⟨_, _, accV_ren rfl, rfl, Wk.rfl⟩, ?_⟩ | refine ⟨⟨_, _, accV_ren rfl, rfl, Wk.acc0⟩, ?_⟩ | refine ⟨⟨_, _, rfl, rfl, Wk.uncap⟩, ?_⟩ | refine ⟨⟨_, _, rfl, rfl, Wk.nil⟩, ?_⟩)) (by repeat' (first | exact True.intro | refine ⟨⟨_, _, _, rfl, rfl, rfl, WkO.rfl⟩, ?_⟩ | refine HeapOK.acc rfl rfl ?_ | refine HeapOK.es rfl rfl ?_)))
  refine M.q (M.goN 2 rfl ?_)
  refine M.accF (i := 3) rfl rfl ?_
  refine M.go rfl ?_
  refine M.use0 trivial (mbr_spec true none (nI (l.take 8)) (by simp [nI]; omega)) rfl rfl rfl ?_
  refine M.go rfl ?_
  refine M.condB rfl (fun h => ?_) (fun h => ?_)
  · refine M.go rfl ?_
    rw [selI, if_neg (by simpa using h)]
    exact M.ret (M.go rfl (M.done (finQ.ret [] rfl rfl rfl Wk.nil (by repeat' (first | exact True.intro | refine ⟨⟨_, _, _, rfl, rfl, rfl, WkO.rfl⟩, ?_⟩ | refine HeapOK.acc rfl rfl ?_ | refine HeapOK.es rfl rfl ?_)))))
  · refine M.go rfl ?_
    rw [selI, if_pos (by simpa using h)]
    exact M.ret (M.go rfl (M.done (finQ.ret [] rfl rfl rfl (by first | exact Wk.rfl | exact Wk.uncap | exact Wk.nil | exact Wk.b1 rfl | exact Wk.t2 Wk.rfl (Wk.b1 rfl)) (by repeat' (first | exact True.intro | refine ⟨⟨_, _, _, rfl, rfl, rfl, WkO.rfl⟩, ?_⟩ | refine HeapOK.acc rfl rfl ?_ | refine HeapOK.es rfl rfl ?_)))))
end Go.Proofs.Yteegdhfekemhmaa

namespace Go.Proofs.Yteegdhfekemhmaa
open Go.RowKit Sim Go Sym
set_option maxRecDepth 100000
set_option linter.unusedVariables false
set_option linter.unusedSimpArgs false
variable {base : Nat}
noncomputable def lRLast : {F : LF // lowerF Try.prog 105 = some F} := ⟨_, rfl⟩
theorem RLast_spec (L : PLog) (hL : L.ok) : CallS Try.prog base 105 [.c (.ptr 0 0)] L.h (.c (.p (.int .i64 L.last))) L.h := by
  refine CallS.of noNG lRLast.2 rfl (M.start (M.go rfl ?_))
  refine M.regD (MD.go rfl (MD.nil mixed (Fnl.nodup rfl) (M.go rfl ?_)))
  rw [show IntKind.i64.wrap (L.S.ix + ((entP L.E).length : Int)) = L.last by rw [entP_len]; exact wr64 (by have := hL.ix; omega) hL.top]
  exact M.ret (M.go rfl (M.done (finQ.ret [(0, 0)] rfl rfl rfl (by first | exact Wk.rfl | exact Wk.uncap | exact Wk.nil | exact Wk.b1 rfl | exact Wk.t2 Wk.rfl (Wk.b1 rfl)) (by repeat' (first | exact True.intro | refine ⟨⟨_, _, _, rfl, rfl, rfl, WkO.rfl⟩, ?_⟩ | refine HeapOK.acc rfl rfl ?_ | refine HeapOK.es rfl rfl ?_)))))
noncomputable def lRTerm : {F : LF // lowerF Try.prog 107 = some F} := ⟨_, rfl⟩
theorem RTerm_spec (L : PLog) (hL : L.ok) (i : Int) (hi : I64 i) : CallS Try.prog base 107 [.c (.ptr 0 0), .c (.p (.int .i64 i))] L.h (.tup [.c (.p (.int .i64 (L.term i).1)), .c (.p (.bs (L.term i).2))]) L.h := by
  refine CallS.of noNG lRTerm.2 rfl (M.start (M.go rfl ?_))
  refine M.cond rfl (fun h1 => ?_) (fun h1 => ?_)
  · refine M.go rfl ?_
    rw [show L.term i = (L.S.tm, true) from if_pos h1]
    exact M.ret (M.go rfl (M.done (finQ.ret [(0, 0)] rfl rfl rfl (by first | exact Wk.rfl | exact Wk.uncap | exact Wk.nil | exact Wk.b1 rfl | exact Wk.t2 Wk.rfl (Wk.b1 rfl)) (by repeat' (first | exact True.intro | refine ⟨⟨_, _, _, rfl, rfl, rfl, WkO.rfl⟩, ?_⟩ | refine HeapOK.acc rfl rfl ?_ | refine HeapOK.es rfl rfl ?_)))))
  · refine M.go rfl ?_
    have e1 : L.term i = if i ≤ L.S.ix ∨ L.last < i then (0, false) else ((L.at' i).tm, true) := if_neg h1
    refine M.dec rfl (fun h2 => ?_) (fun h2 => ?_)
    · refine M.go rfl ?_
      rw [e1, if_pos (.inl (by omega))]
      exact M.ret (M.go rfl (M.done (finQ.ret [(0, 0)] rfl rfl rfl (by first | exact Wk.rfl | exact Wk.uncap | exact Wk.nil | exact Wk.b1 rfl | exact Wk.t2 Wk.rfl (Wk.b1 rfl)) (by repeat' (first | exact True.intro | refine ⟨⟨_, _, _, rfl, rfl, rfl, WkO.rfl⟩, ?_⟩ | refine HeapOK.acc rfl rfl ?_ | refine HeapOK.es rfl rfl ?_)))))
    · refine M.go rfl ?_
      refine M.use (by first | exact True.intro | exact rfl) (RLast_spec L hL) [(0, 0)] rfl rfl rfl (by repeat' (first | exact True.intro | refine ⟨⟨_, _, _, rfl, rfl, rfl, WkO.rfl⟩, ?_⟩ | refine HeapOK.acc rfl rfl ?_ | refine HeapOK.es rfl rfl ?_)) rfl rfl ?_
      refine M.go rfl ?_
      refine M.cond rfl (fun h3 => ?_) (fun h3 => ?_)
      · refine M.go rfl ?_
        rw [e1, if_pos (.inr h3)]
        exact M.ret (M.go rfl (M.done (finQ.ret [(0, 0)] rfl rfl rfl (by first | exact Wk.rfl | exact Wk.uncap | exact Wk.nil | exact Wk.b1 rfl | exact Wk.t2 Wk.rfl (Wk.b1 rfl)) (by repeat' (first | exact True.intro | refine ⟨⟨_, _, _, rfl, rfl, rfl, WkO.rfl⟩, ?_⟩ | refine HeapOK.acc rfl rfl ?_ | refine HeapOK.es rfl rfl ?_)))))
      · refine M.go rfl ?_
        rw [e1, if_neg (by omega)]
        obtain ⟨j, h4, h5, h6, h7⟩ := PLog.at_get (L := L) (i := i) (by omega) (by omega)
        have hw : IntKind.i64.wrap (IntKind.i64.wrap (i - L.S.ix) - 1) = i - L.S.ix - 1 := by
          rw [wr64 (n := i - L.S.ix) (by omega) (by have := hL.ix; have := hi.2; omega), wr64 (by omega) (by have := hL.ix; have := hi.2; omega)]
        refine M.regD (MD.go rfl ?_)
        rw [hw]
        refine MD.op trivial (SOp.ia rfl rfl (by omega) h7) (MD.go rfl ?_)
        refine MD.op trivial (SOp.ld1e rfl h7 rfl rfl rfl) (MD.go rfl (MD.nil mixed (Fnl.nodup rfl) (M.go rfl ?_)))
        exact M.ret (M.go rfl (M.done (finQ.ret [(0, 0)] rfl rfl rfl (by first | exact Wk.rfl | exact Wk.uncap | exact Wk.nil | exact Wk.b1 rfl | exact Wk.t2 Wk.rfl (Wk.b1 rfl)) (by repeat' (first | exact True.intro | refine ⟨⟨_, _, _, rfl, rfl, rfl, WkO.rfl⟩, ?_⟩ | refine HeapOK.acc rfl rfl ?_ | refine HeapOK.es rfl rfl ?_)))))
end Go.Proofs.Yteegdhfekemhmaa

namespace Go.Proofs.Yteegdhfekemhmaa
open Go.RowKit Sim Go Sym
set_option maxRecDepth 100000
set_option linter.unusedVariables false
set_option linter.unusedSimpArgs false
variable {base : Nat}
noncomputable def lGood : {F : LF // lowerF Try.prog 104 = some F} := ⟨_, rfl⟩
def entG (i t : Int) (e : Ent) : Bool := !(!decide (e.ix = i) || (decide (e.tm < 1) || (decide (e.tm < t) || (decide (e.kd < 1) || (decide (3 < e.kd) || (decide (e.kd = 3) && (selI (nI e.d)).isEmpty))))))
def goodF : Int → Int → List Ent → Bool
  | _, _, [] => true
  | i, t, e :: l => entG (IntKind.i64.wrap (i + 1)) t e && goodF (IntKind.i64.wrap (i + 1)) e.tm l
def goodE (z : Bool) (c : Option Nat) (l pre : List Ent) (i t : Int) : Env := [(1, .c (.p (.int .i64 i))), (2, .c (.p (.int .i64 t))), (0, .c (.p (.tz z 4 (entP l) c))), (7, .c (.p (.int .i64 pre.length)))]
theorem good_loop (z : Bool) (c : Option Nat) (l : List Ent) (hl : l.length ≤ 100000000000) (hok : ∀ e ∈ l, e.ok) (Q : QX) :
    ∀ (rest pre : List Ent) (i t : Int), l = pre ++ rest → I64 i → (goodF i t rest = true → Q (.exit 0) [] ⟨[], 0⟩) → (goodF i t rest = false → Q .ret [(6, .c (.p (.bool false)))] ⟨[], 0⟩) → XH Try.prog base lGood.1.n 0 (lGood.1.c.lp 0) (goodE z c l pre i t) ⟨[], 0⟩ Q := by
  intro rest
  induction rest with
  | nil =>
    intro pre i t hp hi hq hr
    refine M.round (M.go rfl ?_)
    simp at hp
    subst hp
    refine M.cond rfl (fun hc => ?_) (fun hc => ?_)
    · simp [entP] at hc
    · refine M.ren [] ?_ trivial rfl (by repeat' (first | exact True.intro | refine ⟨⟨_, _, rfl, rfl, Wk.rfl⟩, ?_⟩ | refine ⟨⟨_, _, accV_ren rfl, rfl, Wk.rfl⟩, ?_⟩ | refine ⟨⟨_, _, accV_ren rfl, rfl, Wk.acc0⟩, ?_⟩ | refine ⟨⟨_, _, rfl, rfl, Wk.uncap⟩, ?_⟩ | refine ⟨⟨_, _, rfl, rfl, Wk.nil⟩, ?_⟩)) (by repeat' (first | exact True.intro | refine ⟨⟨_, _, _, rfl, rfl, rfl, WkO.rfl⟩, ?_⟩ | refine HeapOK.acc rfl rfl ?_ | refine HeapOK.es rfl rfl ?_)) (e' := []) (h' := ⟨[], 0⟩)
      exact M.exit (M.go rfl (M.done (hq rfl)))
  | cons e rest ih =>
    intro pre i t hp hi hq hr
    have he : e.ok := hok e (by rw [hp]; simp)
    have hlen : (entP l).length = pre.length + (rest.length + 1) := by rw [hp]; simp [entP]
    have hll : pre.length + rest.length < 100000000000 := by rw [hp] at hl; simp at hl; omega
    have fin : goodF i t (e :: rest) = false → M Try.prog base lGood.1.n 0 (.out .ret) [] [(6, .c (.p (.bool false)))] ⟨[], 0⟩ Q := fun hm => M.done (hr hm)
    refine M.round (M.go rfl ?_)
    refine M.cond rfl (fun hc => ?_) (fun hc => ?_)
    · refine M.go rfl ?_
      have hu : (entP l)[((pre.length : Int)).toNat]? = some e.pc := by rw [hp]; exact at_app _ _ _ _
      refine M.op trivial (SOp.ia rfl rfl (by omega) hu) ?_
      refine M.op trivial (SOp.ldne rfl hu rfl rfl rfl) ?_
      refine M.go rfl ?_
      · obtain ⟨T, hT⟩ : ∃ T, T = entG (IntKind.i64.wrap (i + 1)) t e := ⟨_, rfl⟩
        have hm : goodF i t (e :: rest) = (T && goodF (IntKind.i64.wrap (i + 1)) e.tm rest) := by rw [goodF, hT]
        refine M.mid ((55, .c (.p (.bs (!T)))) :: (8, .c (.ptr 0 0)) :: goodE z c l pre i t) ⟨[(0, some (.row (e.cs.map XC.p) true))], 1⟩ ?_ ?_
        · refine M.decN rfl (fun h1 => ?_) (fun h1 => ?_)
          · refine M.go rfl (M.end [(0, 0)] rfl ⟨⟨_, _, rfl, rfl, Wk.b1 (by rw [hT]; simp [entG, h1])⟩, (by repeat' (first | exact True.intro | refine ⟨⟨_, _, rfl, rfl, Wk.rfl⟩, ?_⟩ | refine ⟨⟨_, _, accV_ren rfl, rfl, Wk.rfl⟩, ?_⟩ | refine ⟨⟨_, _, accV_ren rfl, rfl, Wk.acc0⟩, ?_⟩ | refine ⟨⟨_, _, rfl, rfl, Wk.uncap⟩, ?_⟩ | refine ⟨⟨_, _, rfl, rfl, Wk.nil⟩, ?_⟩))⟩ (by repeat' (first | exact True.intro | refine ⟨⟨_, _, _, rfl, rfl, rfl, WkO.rfl⟩, ?_⟩ | refine HeapOK.acc rfl rfl ?_ | refine HeapOK.es rfl rfl ?_)))
          · refine M.go rfl ?_
            refine M.dec rfl (fun h2 => ?_) (fun h2 => ?_)
            · refine M.go rfl (M.end [(0, 0)] rfl ⟨⟨_, _, rfl, rfl, Wk.b1 (by rw [hT]; simp [entG, h2])⟩, (by repeat' (first | exact True.intro | refine ⟨⟨_, _, rfl, rfl, Wk.rfl⟩, ?_⟩ | refine ⟨⟨_, _, accV_ren rfl, rfl, Wk.rfl⟩, ?_⟩ | refine ⟨⟨_, _, accV_ren rfl, rfl, Wk.acc0⟩, ?_⟩ | refine ⟨⟨_, _, rfl, rfl, Wk.uncap⟩, ?_⟩ | refine ⟨⟨_, _, rfl, rfl, Wk.nil⟩, ?_⟩))⟩ (by repeat' (first | exact True.intro | refine ⟨⟨_, _, _, rfl, rfl, rfl, WkO.rfl⟩, ?_⟩ | refine HeapOK.acc rfl rfl ?_ | refine HeapOK.es rfl rfl ?_)))
            · refine M.go rfl ?_
              refine M.dec rfl (fun h3 => ?_) (fun h3 => ?_)
              · refine M.go rfl (M.end [(0, 0)] rfl ⟨⟨_, _, rfl, rfl, Wk.b1 (by rw [hT]; simp [entG, h3])⟩, (by repeat' (first | exact True.intro | refine ⟨⟨_, _, rfl, rfl, Wk.rfl⟩, ?_⟩ | refine ⟨⟨_, _, accV_ren rfl, rfl, Wk.rfl⟩, ?_⟩ | refine ⟨⟨_, _, accV_ren rfl, rfl, Wk.acc0⟩, ?_⟩ | refine ⟨⟨_, _, rfl, rfl, Wk.uncap⟩, ?_⟩ | refine ⟨⟨_, _, rfl, rfl, Wk.nil⟩, ?_⟩))⟩ (by repeat' (first | exact True.intro | refine ⟨⟨_, _, _, rfl, rfl, rfl, WkO.rfl⟩, ?_⟩ | refine HeapOK.acc rfl rfl ?_ | refine HeapOK.es rfl rfl ?_)))
              · refine M.go rfl ?_
                refine M.dec rfl (fun h4 => ?_) (fun h4 => ?_)
                · refine M.go rfl (M.end [(0, 0)] rfl ⟨⟨_, _, rfl, rfl, Wk.b1 (by rw [hT]; simp [entG, h4])⟩, (by repeat' (first | exact True.intro | refine ⟨⟨_, _, rfl, rfl, Wk.rfl⟩, ?_⟩ | refine ⟨⟨_, _, accV_ren rfl, rfl, Wk.rfl⟩, ?_⟩ | refine ⟨⟨_, _, accV_ren rfl, rfl, Wk.acc0⟩, ?_⟩ | refine ⟨⟨_, _, rfl, rfl, Wk.uncap⟩, ?_⟩ | refine ⟨⟨_, _, rfl, rfl, Wk.nil⟩, ?_⟩))⟩ (by repeat' (first | exact True.intro | refine ⟨⟨_, _, _, rfl, rfl, rfl, WkO.rfl⟩, ?_⟩ | refine HeapOK.acc rfl rfl ?_ | refine HeapOK.es rfl rfl ?_)))
                · refine M.go rfl ?_
                  refine M.dec rfl (fun h5 => ?_) (fun h5 => ?_)
                  · refine M.go rfl (M.end [(0, 0)] rfl ⟨⟨_, _, rfl, rfl, Wk.b1 (by rw [hT]; simp [entG, h5])⟩, (by repeat' (first | exact True.intro | refine ⟨⟨_, _, rfl, rfl, Wk.rfl⟩, ?_⟩ | refine ⟨⟨_, _, accV_ren rfl, rfl, Wk.rfl⟩, ?_⟩ | refine ⟨⟨_, _, accV_ren rfl, rfl, Wk.acc0⟩, ?_⟩ | refine ⟨⟨_, _, rfl, rfl, Wk.uncap⟩, ?_⟩ | refine ⟨⟨_, _, rfl, rfl, Wk.nil⟩, ?_⟩))⟩ (by repeat' (first | exact True.intro | refine ⟨⟨_, _, _, rfl, rfl, rfl, WkO.rfl⟩, ?_⟩ | refine HeapOK.acc rfl rfl ?_ | refine HeapOK.es rfl rfl ?_)))
                  · refine M.go rfl ?_
                    refine M.dec rfl (fun h6 => ?_) (fun h6 => ?_)
                    · refine M.go rfl ?_
                      refine M.use0 rfl (ids_spec e.z e.c e.d he.d) rfl rfl rfl ?_
                      refine M.go rfl (M.end [(0, 0)] rfl ⟨⟨_, _, rfl, rfl, Wk.b2 (by rw [hT]; simp [entG, h1, h2, h3, h4, h5, h6, inP])⟩, (by repeat' (first | exact True.intro | refine ⟨⟨_, _, rfl, rfl, Wk.rfl⟩, ?_⟩ | refine ⟨⟨_, _, accV_ren rfl, rfl, Wk.rfl⟩, ?_⟩ | refine ⟨⟨_, _, accV_ren rfl, rfl, Wk.acc0⟩, ?_⟩ | refine ⟨⟨_, _, rfl, rfl, Wk.uncap⟩, ?_⟩ | refine ⟨⟨_, _, rfl, rfl, Wk.nil⟩, ?_⟩))⟩ (by repeat' (first | exact True.intro | refine ⟨⟨_, _, _, rfl, rfl, rfl, WkO.rfl⟩, ?_⟩ | refine HeapOK.acc rfl rfl ?_ | refine HeapOK.es rfl rfl ?_)))
                    · refine M.go rfl (M.end [(0, 0)] rfl ⟨⟨_, _, rfl, rfl, Wk.b1 (by rw [hT]; simp [entG, h1, h2, h3, h4, h5, h6])⟩, (by repeat' (first | exact True.intro | refine ⟨⟨_, _, rfl, rfl, Wk.rfl⟩, ?_⟩ | refine ⟨⟨_, _, accV_ren rfl, rfl, Wk.rfl⟩, ?_⟩ | refine ⟨⟨_, _, accV_ren rfl, rfl, Wk.acc0⟩, ?_⟩ | refine ⟨⟨_, _, rfl, rfl, Wk.uncap⟩, ?_⟩ | refine ⟨⟨_, _, rfl, rfl, Wk.nil⟩, ?_⟩))⟩ (by repeat' (first | exact True.intro | refine ⟨⟨_, _, _, rfl, rfl, rfl, WkO.rfl⟩, ?_⟩ | refine HeapOK.acc rfl rfl ?_ | refine HeapOK.es rfl rfl ?_)))
        · refine M.go rfl ?_
          refine M.condB rfl (fun hc => ?_) (fun hc => ?_)
          · refine M.go rfl ?_
            refine M.ren [] ?_ trivial rfl (by repeat' (first | exact True.intro | refine ⟨⟨_, _, rfl, rfl, Wk.rfl⟩, ?_⟩ | refine ⟨⟨_, _, accV_ren rfl, rfl, Wk.rfl⟩, ?_⟩ | refine ⟨⟨_, _, accV_ren rfl, rfl, Wk.acc0⟩, ?_⟩ | refine ⟨⟨_, _, rfl, rfl, Wk.uncap⟩, ?_⟩ | refine ⟨⟨_, _, rfl, rfl, Wk.nil⟩, ?_⟩)) (by repeat' (first | exact True.intro | refine ⟨⟨_, _, _, rfl, rfl, rfl, WkO.rfl⟩, ?_⟩ | refine HeapOK.acc rfl rfl ?_ | refine HeapOK.es rfl rfl ?_)) (e' := [(6, .c (.p (.bool false)))]) (h' := ⟨[], 0⟩)
            exact M.ret (M.go rfl (M.done (hr (by rw [hm]; rw [Bool.not_eq_true'] at hc; rw [hc]; rfl))))
          · refine M.go rfl ?_
            have hbb : T = true := by simpa using hc
            have h7 : e.ix = IntKind.i64.wrap (i + 1) := by rw [hT] at hbb; simp [entG] at hbb; exact hbb.1
            rw [hm, hbb, Bool.true_and, ← h7] at hq hr
            refine M.regD (MD.go rfl (MD.nil mixed (Fnl.nodup rfl) (M.go rfl ?_)))
            have ih' := ih (pre ++ [e]) e.ix e.tm (by rw [hp]; simp) he.ix hq hr
            have hw2 : IntKind.i64.wrap ((pre.length : Int) + 1) = ((pre ++ [e]).length : Int) := by rw [wr64 (by omega) (by omega)]; simp
            rw [hw2]
            exact M.again (XH.ren [] ih' rfl (by repeat' (first | exact True.intro | refine ⟨⟨_, _, rfl, rfl, Wk.rfl⟩, ?_⟩ | refine ⟨⟨_, _, accV_ren rfl, rfl, Wk.rfl⟩, ?_⟩ | refine ⟨⟨_, _, accV_ren rfl, rfl, Wk.acc0⟩, ?_⟩ | refine ⟨⟨_, _, rfl, rfl, Wk.uncap⟩, ?_⟩ | refine ⟨⟨_, _, rfl, rfl, Wk.nil⟩, ?_⟩)) (by repeat' (first | exact True.intro | refine ⟨⟨_, _, _, rfl, rfl, rfl, WkO.rfl⟩, ?_⟩ | refine HeapOK.acc rfl rfl ?_ | refine HeapOK.es rfl rfl ?_)))
    · rw [hlen] at hc; omega
theorem good_spec (z : Bool) (c : Option Nat) (l : List Ent) (i t : Int) (hl : l.length ≤ 100000000000) (hok : ∀ e ∈ l, e.ok) (hi : I64 i) : CallS Try.prog base 104 [.c (.p (.tz z 4 (entP l) c)), .c (.p (.int .i64 i)), .c (.p (.int .i64 t))] ⟨[], 0⟩ (.c (.p (.bs (goodF i t l)))) ⟨[], 0⟩ := by
  refine CallS.of noNG lGood.2 rfl (M.start (M.go rfl ?_))
  refine M.loop (XH.ren [] (good_loop z c l hl hok _ l [] i t rfl hi ?_ ?_) rfl (by repeat' (first | exact True.intro | refine ⟨⟨_, _, rfl, rfl, Wk.rfl⟩, ?_⟩ | refine ⟨⟨_, _, accV_ren rfl, rfl, Wk.rfl⟩, ?_⟩ | refine ⟨⟨_, _, accV_ren rfl, rfl, Wk.acc0⟩, ?_⟩ | refine ⟨⟨_, _, rfl, rfl, Wk.uncap⟩, ?_⟩ | refine ⟨⟨_, _, rfl, rfl, Wk.nil⟩, ?_⟩)) (by repeat' (first | exact True.intro | refine ⟨⟨_, _, _, rfl, rfl, rfl, WkO.rfl⟩, ?_⟩ | refine HeapOK.acc rfl rfl ?_ | refine HeapOK.es rfl rfl ?_)))
  · intro hm
    refine M.q (M.go rfl ?_)
    exact M.ret (M.go rfl (M.done (finQ.ret [] rfl rfl rfl (Wk.b1 hm) (by repeat' (first | exact True.intro | refine ⟨⟨_, _, _, rfl, rfl, rfl, WkO.rfl⟩, ?_⟩ | refine HeapOK.acc rfl rfl ?_ | refine HeapOK.es rfl rfl ?_)))))
  · intro hm
    refine M.q (M.go rfl ?_)
    exact M.done (finQ.ret [] rfl rfl rfl (Wk.b1 hm) (by repeat' (first | exact True.intro | refine ⟨⟨_, _, _, rfl, rfl, rfl, WkO.rfl⟩, ?_⟩ | refine HeapOK.acc rfl rfl ?_ | refine HeapOK.es rfl rfl ?_)))
end Go.Proofs.Yteegdhfekemhmaa

namespace Go.Proofs.Yteegdhfekemhmaa
open Go.RowKit Sim Go Sym
set_option maxRecDepth 100000
set_option linter.unusedVariables false
set_option linter.unusedSimpArgs false
variable {base : Nat}
noncomputable def lRNew : {F : LF // lowerF Try.prog 52 = some F} := ⟨_, rfl⟩
def rnewOk (s : Snp) (l : List Ent) : Bool := !(decide (s.ix < 0) || (decide (s.tm < 0) || !goodF s.ix s.tm l))
theorem RNew_no (s : Snp) (hs : s.ok) (z : Bool) (c : Option Nat) (l : List Ent) (hl : l.length ≤ 10000000000) (hok : ∀ e ∈ l, e.ok) (hno : rnewOk s l = false) : CallS Try.prog base 52 [s.v, .c (.p (.tz z 4 (entP l) c))] ⟨[], 0⟩ (.c (.p .nilp)) ⟨[], 0⟩ := by
  refine CallS.of noNG lRNew.2 rfl (M.start (M.go rfl ?_))
  refine M.dec rfl (fun h1 => ?_) (fun h1 => ?_)
  · refine M.go rfl ?_
    exact M.ret (M.go rfl (M.done (finQ.ret [] rfl rfl rfl (by first | exact Wk.rfl | exact Wk.uncap | exact Wk.nil | exact Wk.b1 rfl | exact Wk.t2 Wk.rfl (Wk.b1 rfl)) (by repeat' (first | exact True.intro | refine ⟨⟨_, _, _, rfl, rfl, rfl, WkO.rfl⟩, ?_⟩ | refine HeapOK.acc rfl rfl ?_ | refine HeapOK.es rfl rfl ?_)))))
  · refine M.go rfl ?_
    refine M.dec rfl (fun h2 => ?_) (fun h2 => ?_)
    · refine M.go rfl ?_
      exact M.ret (M.go rfl (M.done (finQ.ret [] rfl rfl rfl (by first | exact Wk.rfl | exact Wk.uncap | exact Wk.nil | exact Wk.b1 rfl | exact Wk.t2 Wk.rfl (Wk.b1 rfl)) (by repeat' (first | exact True.intro | refine ⟨⟨_, _, _, rfl, rfl, rfl, WkO.rfl⟩, ?_⟩ | refine HeapOK.acc rfl rfl ?_ | refine HeapOK.es rfl rfl ?_)))))
    · refine M.go rfl ?_
      refine M.use0 rfl (good_spec z c l s.ix s.tm (by omega) hok hs.ix) rfl rfl rfl ?_
      refine M.go rfl ?_
      have hm : goodF s.ix s.tm l = false := by simpa [rnewOk, h1, h2] using hno
      refine M.condB rfl (fun h3 => ?_) (fun h3 => ?_)
      · refine M.go rfl ?_
        exact M.ret (M.go rfl (M.done (finQ.ret [] rfl rfl rfl (by first | exact Wk.rfl | exact Wk.uncap | exact Wk.nil | exact Wk.b1 rfl | exact Wk.t2 Wk.rfl (Wk.b1 rfl)) (by repeat' (first | exact True.intro | refine ⟨⟨_, _, _, rfl, rfl, rfl, WkO.rfl⟩, ?_⟩ | refine HeapOK.acc rfl rfl ?_ | refine HeapOK.es rfl rfl ?_)))))
      · rw [hm] at h3; simp at h3
theorem RNew_yes (s : Snp) (hs : s.ok) (z : Bool) (c : Option Nat) (l : List Ent) (hl : l.length ≤ 10000000000) (hok : ∀ e ∈ l, e.ok) (hno : rnewOk s l = true) : CallS Try.prog base 52 [s.v, .c (.p (.tz z 4 (entP l) c))] ⟨[], 0⟩ (.c (.ptr 0 0)) (PLog.h ⟨s, l, true, none⟩) := by
  refine CallS.of noNG lRNew.2 rfl (M.start (M.go rfl ?_))
  have h1 : ¬ s.ix < 0 := fun h => by simp [rnewOk, h] at hno
  have h2 : ¬ s.tm < 0 := fun h => by simp [rnewOk, h] at hno
  have hm : goodF s.ix s.tm l = true := by simpa [rnewOk, h1, h2] using hno
  refine M.dec rfl (fun h => absurd h h1) (fun _ => ?_)
  refine M.go rfl ?_
  refine M.dec rfl (fun h => absurd h h2) (fun _ => ?_)
  refine M.go rfl ?_
  refine M.use0 rfl (good_spec z c l s.ix s.tm (by omega) hok hs.ix) rfl rfl rfl ?_
  refine M.go rfl ?_
  refine M.condB rfl (fun h3 => ?_) (fun _ => ?_)
  · rw [hm] at h3; simp at h3
  refine M.go rfl (M.regF (MF.go rfl ?_))
  cases l with
  | nil =>
    refine MF.op trivial (SOp.app0 rfl rfl .tz (.inr ⟨_, _, _, _, rfl⟩)) (MF.go rfl (MF.nil mixed (Fnl.nodup rfl) rfl ⟨⟨stepX_ok rfl, trivial⟩, trivial⟩ (M.go rfl ?_)))
    exact M.ret (M.go rfl (M.done (finQ.ret [(0, 1)] rfl rfl rfl Wk.rfl ⟨⟨_, _, _, rfl, rfl, rfl, WkO.row ⟨Wk.rfl, Wk.rfl, Wk.rfl, Wk.rfl, Wk.nil, trivial⟩⟩, trivial⟩)))
  | cons e l =>
    have hlen : (entP (e :: l)).length ≤ 10000000000 := by rw [entP_len]; exact hl
    refine MF.op trivial (SOp.appN rfl rfl .tz (by simp [entP]) (by omega)) (MF.go rfl (MF.nil mixed (Fnl.nodup rfl) rfl ⟨⟨stepX_ok rfl, trivial⟩, trivial⟩ ?_))
    refine M.goN 1 rfl ?_
    refine M.freezeR (b0 := 2) (o := 4) (b := 1) rfl rfl rfl rfl rfl rfl ?_
    refine M.go rfl ?_
    exact M.ret (M.go rfl (M.done (finQ.ret [(0, 2)] rfl rfl rfl Wk.rfl ⟨⟨_, _, _, rfl, rfl, rfl, WkO.row ⟨Wk.rfl, Wk.rfl, Wk.rfl, Wk.rfl, Wk.trans Wk.uncap (Wk.some (by simp [entP])), trivial⟩⟩, trivial⟩)))
end Go.Proofs.Yteegdhfekemhmaa

namespace Go.Proofs.Yteegdhfekemhmaa
open Go.RowKit Sim Go Sym
set_option maxRecDepth 100000
set_option linter.unusedVariables false
set_option linter.unusedSimpArgs false
variable {base : Nat}
noncomputable def lShort : {F : LF // lowerF Try.prog 26 = some F} := ⟨_, rfl⟩
theorem short_spec (z : Bool) (el : List PC) (c : Option Nat) (n : Nat) (hn : 0 < n) : CallS Try.prog base 26 [.c (.p (.tz z 1 el c)), .c (.p (.int .i64 n))] ⟨[], 0⟩ (.c (.p (.tz z 1 (el.take n) none))) ⟨[], 0⟩ := by
  refine CallS.of noNG lShort.2 rfl (M.start (M.go rfl ?_))
  refine M.cond rfl (fun h => ?_) (fun h => ?_)
  · refine M.go rfl ?_
    refine M.op trivial (SOp.sl (r := n) rfl rfl ⟨_, _, rfl, by omega, by omega⟩ (Nat.zero_le _) (by omega)) ?_
    refine M.go rfl ?_
    have h1 : (el.drop 0).take (n - 0) = el.take n := by simp
    rw [h1]
    have h2 : el.take n ≠ [] := by
      intro e
      have := congrArg List.length e
      simp at this
      rcases this with h3 | h3
      · omega
      · subst h3; simp at h; omega
    exact M.ret (M.go rfl (M.done (finQ.ret [] rfl rfl rfl (Wk.trans Wk.uncap (Wk.some h2)) (by repeat' (first | exact True.intro | refine ⟨⟨_, _, _, rfl, rfl, rfl, WkO.rfl⟩, ?_⟩ | refine HeapOK.acc rfl rfl ?_ | refine HeapOK.es rfl rfl ?_)))))
  · refine M.go rfl ?_
    rw [List.take_of_length_le (by omega)]
    exact M.ret (M.go rfl (M.done (finQ.ret [] rfl rfl rfl (by first | exact Wk.rfl | exact Wk.uncap | exact Wk.nil | exact Wk.b1 rfl | exact Wk.t2 Wk.rfl (Wk.b1 rfl)) (by repeat' (first | exact True.intro | refine ⟨⟨_, _, _, rfl, rfl, rfl, WkO.rfl⟩, ?_⟩ | refine HeapOK.acc rfl rfl ?_ | refine HeapOK.es rfl rfl ?_)))))
end Go.Proofs.Yteegdhfekemhmaa

namespace Go.Proofs.Yteegdhfekemhmaa
open Go.RowKit Sim Go Sym
set_option maxRecDepth 100000
set_option linter.unusedVariables false
set_option linter.unusedSimpArgs false
variable {base : Nat}
/-! The same content. -/
theorem sc_tz {z z' : Bool} {s s' : Nat} {el el' : List PC} (h : (PC.tz z s el none).sc = (PC.tz z' s' el' none).sc) : (el = [] ∧ el' = []) ∨ (s = s' ∧ flatE s el = flatE s' el' ∧ el.length = el'.length) := by
  simp only [PC.sc] at h
  cases h1 : (z && el.isEmpty) <;> cases h2 : (z' && el'.isEmpty) <;> simp only [h1, h2, cond_true, cond_false] at h
  · simp only [SC.fz.injEq] at h
    exact .inr ⟨h.2.1, h.2.2.1, h.1⟩
  · cases h
  · cases h
  · simp only [Bool.and_eq_true, List.isEmpty_iff] at h1 h2
    exact .inl ⟨h1.2, h2.2⟩
theorem flat_ones {α : Type} (f : α → PC) (hf : ∀ a, (f a).one = true) (inj : ∀ a b, (f a).sc = (f b).sc → a = b) : ∀ {a b : List α}, flatE 1 (a.map f) = flatE 1 (b.map f) → a = b
  | [], [], _ => rfl
  | [], y :: b, h => by have := congrArg List.length h; rw [flatE_len, flatE_len] at this; simp at this
  | x :: a, [], h => by have := congrArg List.length h; rw [flatE_len, flatE_len] at this; simp at this
  | x :: a, y :: b, h => by
    have h' : fit 1 (f x).flat ++ flatE 1 (a.map f) = fit 1 (f y).flat ++ flatE 1 (b.map f) := h
    have e1 : ∀ x : α, fit 1 (f x).flat = [(f x).sc] := fun x => by rw [PC.flat_one (hf x)]; exact fit_eq rfl
    rw [e1, e1] at h'
    simp only [List.singleton_append, List.cons.injEq] at h'
    rw [inj _ _ h'.1, flat_ones f hf inj h'.2]
theorem flat_byP {a b : List Nat} (h : flatE 1 (byP a) = flatE 1 (byP b)) : a = b := by
  refine flat_ones (fun (b : Nat) => PC.int .u8 b) (fun _ => rfl) (fun x y h => ?_) h
  have h' : ((x : Nat) : Int) = (y : Nat) := by simpa [PC.sc] using h
  omega
theorem flat_inP {a b : List Int} (h : flatE 1 (inP a) = flatE 1 (inP b)) : a = b := flat_ones _ (fun _ => rfl) (fun x y h => by simpa [PC.sc] using h) h
theorem sc_by {z z' : Bool} {a b : List Nat} {c c' : Option Nat} (h : (PC.tz z 1 (byP a) none).sc = (PC.tz z' 1 (byP b) none).sc) : a = b := by
  rcases sc_tz h with ⟨h1, h2⟩ | ⟨_, h2, _⟩
  · have e1 := congrArg List.length h1; have e2 := congrArg List.length h2
    simp [byP] at e1 e2; rw [e1, e2]
  · exact flat_byP h2
theorem sc_in {z z' : Bool} {a b : List Int} (h : (PC.tz z 1 (inP a) none).sc = (PC.tz z' 1 (inP b) none).sc) : a = b := by
  rcases sc_tz h with ⟨h1, h2⟩ | ⟨_, h2, _⟩
  · have e1 := congrArg List.length h1; have e2 := congrArg List.length h2
    simp [inP] at e1 e2; rw [e1, e2]
  · exact flat_inP h2
def Ent.nc (e : Ent) : Prop := e.c = none
theorem flat_ent (e : Ent) : fit 4 e.pc.flat = [SC.int .i64 e.ix, .int .i64 e.tm, .int .i64 e.kd, (PC.tz e.z 1 (byP e.d) e.c).sc] := by
  have : e.pc.flat = [SC.int .i64 e.ix, .int .i64 e.tm, .int .i64 e.kd, (PC.tz e.z 1 (byP e.d) e.c).sc] := by
    show flats e.cs = _
    rw [flats_ones (by rfl)]
    simp only [Ent.cs, List.map_cons, List.map_nil, PC.sc]
  rw [this]; exact fit_eq rfl
theorem flat_ents : ∀ {a b : List Ent}, (∀ e ∈ a, e.c = none) → (∀ e ∈ b, e.c = none) → flatE 4 (entP a) = flatE 4 (entP b) → a.map Ent.p = b.map Ent.p
  | [], [], _, _, _ => rfl
  | [], y :: b, _, _, h => by have := congrArg List.length h; rw [flatE_len, flatE_len] at this; simp [entP] at this
  | x :: a, [], _, _, h => by have := congrArg List.length h; rw [flatE_len, flatE_len] at this; simp [entP] at this
  | x :: a, y :: b, ha, hb, h => by
    have h' : fit 4 x.pc.flat ++ flatE 4 (entP a) = fit 4 y.pc.flat ++ flatE 4 (entP b) := h
    rw [flat_ent, flat_ent] at h'
    simp only [List.cons_append, List.nil_append, List.cons.injEq, SC.int.injEq, true_and] at h'
    obtain ⟨h1, h2, h3, h4, h5⟩ := h'
    rw [ha x (by simp), hb y (by simp)] at h4
    rw [List.map_cons, List.map_cons, flat_ents (fun e he => ha e (by simp [he])) (fun e he => hb e (by simp [he])) h5, Ent.p, Ent.p, h1, h2, h3, sc_by (c := none) (c' := none) h4]
structure PMsg.nc (m : PMsg) : Prop where
  es : ∀ e ∈ m.es, e.c = none
theorem PMsg.inj {m n : PMsg} (hm : m.nc) (hn : n.nc) (h : m.v.sv = n.v.sv) : m.p = n.p := by
  simp only [PMsg.v, PMsg.cs, XV.sv, List.map_cons, List.map_nil, XC.sc, SV.agg.injEq, List.cons.injEq, and_true] at h
  obtain ⟨h0, h1, h2, h3, h4, h5, h6, h7, h8, h9, h10, h11, h12, h13, h14⟩ := h
  have e7 : m.es.map Ent.p = n.es.map Ent.p := by
    rcases sc_tz h7 with ⟨g1, g2⟩ | ⟨_, g2, _⟩
    · have e1 := congrArg List.length g1; have e2 := congrArg List.length g2
      rw [entP_len] at e1 e2
      rw [List.eq_nil_of_length_eq_zero e1, List.eq_nil_of_length_eq_zero e2]
    · exact flat_ents hm.es hn.es g2
  have e10 := sc_in h10
  have e11 := sc_by (c := none) (c' := none) h11
  simp only [PC.sc, SC.int.injEq, true_and, SC.bool.injEq] at h0 h1 h2 h3 h4 h5 h6 h8 h9 h12 h13 h14
  simp only [PMsg.p, PMsg.hd, h0, h1, h2, h3, h4, h5, h6, h8, h9, h12, h13, h14, e7, e10, e11]
/-! EqMsg. -/
noncomputable def lEm : {F : LF // lowerF Try.prog 61 = some F} := ⟨_, rfl⟩
def PMsg.eqv (a b : PMsg) : Bool := decide (a.kd = b.kd) && (decide (a.fr = b.fr) && (decide (a.to = b.to) && (decide (a.tm = b.tm) && (decide (a.ix = b.ix) && (decide (a.lt = b.lt) && (decide (a.cm = b.cm) && (eqvL a.es b.es && ((a.ok == b.ok) && (decide (a.hint = b.hint) && (decide (a.cf = b.cf) && (eqL a.d b.d && (decide (a.off = b.off) && (decide (a.sz = b.sz) && decide (a.ctx = b.ctx))))))))))))))
structure PMsg.rd (m : PMsg) : Prop where
  es : m.es.length ≤ 100000000000 ∧ ∀ e ∈ m.es, e.ok
  cf : m.cf.length ≤ 100000000000
  d : okB m.d
theorem EqMsg_spec (a b : PMsg) (ha : a.rd) (hb : b.rd) : CallS Try.prog base 61 [a.v, b.v] ⟨[], 0⟩ (.c (.p (.bs (a.eqv b)))) ⟨[], 0⟩ := by
  refine CallS.of noNG lEm.2 rfl (M.start (M.go rfl ?_))
  refine M.dec rfl (fun h1 => M.go rfl ?_) (fun h1 => M.go rfl ?_)
  rotate_left
  · exact M.ret (M.go rfl (M.done (finQ.ret [] rfl rfl rfl (Wk.b1 (by simp [PMsg.eqv, *])) (by repeat' (first | exact True.intro | refine ⟨⟨_, _, _, rfl, rfl, rfl, WkO.rfl⟩, ?_⟩ | refine HeapOK.acc rfl rfl ?_ | refine HeapOK.es rfl rfl ?_)))))
  refine M.dec rfl (fun h2 => M.go rfl ?_) (fun h2 => M.go rfl ?_)
  rotate_left
  · exact M.ret (M.go rfl (M.done (finQ.ret [] rfl rfl rfl (Wk.b1 (by simp [PMsg.eqv, *])) (by repeat' (first | exact True.intro | refine ⟨⟨_, _, _, rfl, rfl, rfl, WkO.rfl⟩, ?_⟩ | refine HeapOK.acc rfl rfl ?_ | refine HeapOK.es rfl rfl ?_)))))
  refine M.dec rfl (fun h3 => M.go rfl ?_) (fun h3 => M.go rfl ?_)
  rotate_left
  · exact M.ret (M.go rfl (M.done (finQ.ret [] rfl rfl rfl (Wk.b1 (by simp [PMsg.eqv, *])) (by repeat' (first | exact True.intro | refine ⟨⟨_, _, _, rfl, rfl, rfl, WkO.rfl⟩, ?_⟩ | refine HeapOK.acc rfl rfl ?_ | refine HeapOK.es rfl rfl ?_)))))
  refine M.dec rfl (fun h4 => M.go rfl ?_) (fun h4 => M.go rfl ?_)
  rotate_left
  · exact M.ret (M.go rfl (M.done (finQ.ret [] rfl rfl rfl (Wk.b1 (by simp [PMsg.eqv, *])) (by repeat' (first | exact True.intro | refine ⟨⟨_, _, _, rfl, rfl, rfl, WkO.rfl⟩, ?_⟩ | refine HeapOK.acc rfl rfl ?_ | refine HeapOK.es rfl rfl ?_)))))
  refine M.dec rfl (fun h5 => M.go rfl ?_) (fun h5 => M.go rfl ?_)
  rotate_left
  · exact M.ret (M.go rfl (M.done (finQ.ret [] rfl rfl rfl (Wk.b1 (by simp [PMsg.eqv, *])) (by repeat' (first | exact True.intro | refine ⟨⟨_, _, _, rfl, rfl, rfl, WkO.rfl⟩, ?_⟩ | refine HeapOK.acc rfl rfl ?_ | refine HeapOK.es rfl rfl ?_)))))
  refine M.dec rfl (fun h6 => M.go rfl ?_) (fun h6 => M.go rfl ?_)
  rotate_left
  · exact M.ret (M.go rfl (M.done (finQ.ret [] rfl rfl rfl (Wk.b1 (by simp [PMsg.eqv, *])) (by repeat' (first | exact True.intro | refine ⟨⟨_, _, _, rfl, rfl, rfl, WkO.rfl⟩, ?_⟩ | refine HeapOK.acc rfl rfl ?_ | refine HeapOK.es rfl rfl ?_)))))
  refine M.dec rfl (fun h7 => M.go rfl ?_) (fun h7 => M.go rfl ?_)
  rotate_left
  · exact M.ret (M.go rfl (M.done (finQ.ret [] rfl rfl rfl (Wk.b1 (by simp [PMsg.eqv, *])) (by repeat' (first | exact True.intro | refine ⟨⟨_, _, _, rfl, rfl, rfl, WkO.rfl⟩, ?_⟩ | refine HeapOK.acc rfl rfl ?_ | refine HeapOK.es rfl rfl ?_)))))
  refine M.use0 rfl (EqEntries_spec a.ez b.ez none none a.es b.es ha.es.1 ha.es.2 hb.es.2) rfl rfl rfl ?_
  refine M.go rfl ?_
  refine M.decB rfl (fun h8 => M.go rfl ?_) (fun h8 => M.go rfl ?_)
  rotate_left
  · exact M.ret (M.go rfl (M.done (finQ.ret [] rfl rfl rfl (Wk.b1 (by simp [PMsg.eqv, *])) (by repeat' (first | exact True.intro | refine ⟨⟨_, _, _, rfl, rfl, rfl, WkO.rfl⟩, ?_⟩ | refine HeapOK.acc rfl rfl ?_ | refine HeapOK.es rfl rfl ?_)))))
  refine M.decB rfl (fun h9 => M.go rfl ?_) (fun h9 => M.go rfl ?_)
  rotate_left
  · exact M.ret (M.go rfl (M.done (finQ.ret [] rfl rfl rfl (Wk.b1 (by simp [PMsg.eqv, *])) (by repeat' (first | exact True.intro | refine ⟨⟨_, _, _, rfl, rfl, rfl, WkO.rfl⟩, ?_⟩ | refine HeapOK.acc rfl rfl ?_ | refine HeapOK.es rfl rfl ?_)))))
  refine M.dec rfl (fun h10 => M.go rfl ?_) (fun h10 => M.go rfl ?_)
  rotate_left
  · exact M.ret (M.go rfl (M.done (finQ.ret [] rfl rfl rfl (Wk.b1 (by simp [PMsg.eqv, *])) (by repeat' (first | exact True.intro | refine ⟨⟨_, _, _, rfl, rfl, rfl, WkO.rfl⟩, ?_⟩ | refine HeapOK.acc rfl rfl ?_ | refine HeapOK.es rfl rfl ?_)))))
  refine M.use0 rfl (EqInts_spec a.cz b.cz none none a.cf b.cf ha.cf) rfl rfl rfl ?_
  refine M.go rfl ?_
  refine M.dec rfl (fun h11 => M.go rfl ?_) (fun h11 => M.go rfl ?_)
  rotate_left
  · exact M.ret (M.go rfl (M.done (finQ.ret [] rfl rfl rfl (Wk.b1 (by simp [PMsg.eqv, *])) (by repeat' (first | exact True.intro | refine ⟨⟨_, _, _, rfl, rfl, rfl, WkO.rfl⟩, ?_⟩ | refine HeapOK.acc rfl rfl ?_ | refine HeapOK.es rfl rfl ?_)))))
  refine M.op rfl (SOp.cvBS rfl (bytes_of ha.d)) ?_
  refine M.go rfl ?_
  refine M.op rfl (SOp.cvBS rfl (bytes_of hb.d)) ?_
  refine M.go rfl ?_
  refine M.decB rfl (fun h12 => M.go rfl ?_) (fun h12 => M.go rfl ?_)
  rotate_left
  · exact M.ret (M.go rfl (M.done (finQ.ret [] rfl rfl rfl (Wk.b1 (by simp [PMsg.eqv, *])) (by repeat' (first | exact True.intro | refine ⟨⟨_, _, _, rfl, rfl, rfl, WkO.rfl⟩, ?_⟩ | refine HeapOK.acc rfl rfl ?_ | refine HeapOK.es rfl rfl ?_)))))
  refine M.dec rfl (fun h13 => M.go rfl ?_) (fun h13 => M.go rfl ?_)
  rotate_left
  · exact M.ret (M.go rfl (M.done (finQ.ret [] rfl rfl rfl (Wk.b1 (by simp [PMsg.eqv, *])) (by repeat' (first | exact True.intro | refine ⟨⟨_, _, _, rfl, rfl, rfl, WkO.rfl⟩, ?_⟩ | refine HeapOK.acc rfl rfl ?_ | refine HeapOK.es rfl rfl ?_)))))
  refine M.dec rfl (fun h14 => M.go rfl ?_) (fun h14 => M.go rfl ?_)
  rotate_left
  · exact M.ret (M.go rfl (M.done (finQ.ret [] rfl rfl rfl (Wk.b1 (by simp [PMsg.eqv, *])) (by repeat' (first | exact True.intro | refine ⟨⟨_, _, _, rfl, rfl, rfl, WkO.rfl⟩, ?_⟩ | refine HeapOK.acc rfl rfl ?_ | refine HeapOK.es rfl rfl ?_)))))
  exact M.ret (M.go rfl (M.done (finQ.ret [] rfl rfl rfl (Wk.b2 (by simp [PMsg.eqv, *])) (by repeat' (first | exact True.intro | refine ⟨⟨_, _, _, rfl, rfl, rfl, WkO.rfl⟩, ?_⟩ | refine HeapOK.acc rfl rfl ?_ | refine HeapOK.es rfl rfl ?_)))))
theorem i2_inj {a b : List Nat} (h : i2 a = i2 b) : a = b := by rw [← n2_i2 a, h, n2_i2]
theorem ent_eqv {e f : Ent} : e.eqv f = true ↔ e.p = f.p := by
  simp only [Ent.eqv, Bool.and_eq_true, decide_eq_true_eq, eqL_iff, Ent.p, EntP.mk.injEq]
  constructor
  · rintro ⟨h1, h2, h3, h4⟩
    exact ⟨h1, h2, h3, by rw [h4]⟩
  · rintro ⟨h1, h2, h3, h4⟩
    exact ⟨h1, h2, h3, i2_inj h4⟩
theorem ents_eqv : ∀ {l r : List Ent}, eqvL l r = true ↔ l.map Ent.p = r.map Ent.p
  | [], [] => by simp [eqvL]
  | [], _ :: _ => by simp [eqvL]
  | _ :: _, [] => by simp [eqvL]
  | e :: l, f :: r => by simp [eqvL, ent_eqv, ents_eqv]
theorem PMsg.eqv_iff {a b : PMsg} : a.eqv b = true ↔ a.p = b.p := by
  simp only [PMsg.eqv, Bool.and_eq_true, decide_eq_true_eq, beq_iff_eq, eqL_iff, ents_eqv, PMsg.p, PMsg.hd, MsgP.mk.injEq, List.cons.injEq, and_true]
  constructor
  · rintro ⟨h1, h2, h3, h4, h5, h6, h7, h8, h9, h10, h11, h12, h13, h14, h15⟩
    exact ⟨⟨h1, h2, h3, h4, h5, h6, h7⟩, h8, h9, h10, h11, by rw [h12], h13, h14, h15⟩
  · rintro ⟨⟨h1, h2, h3, h4, h5, h6, h7⟩, h8, h9, h10, h11, h12, h13, h14, h15⟩
    exact ⟨h1, h2, h3, h4, h5, h6, h7, h8, h9, h10, h11, i2_inj h12, h13, h14, h15⟩
theorem PMsg.rd_p {a b : PMsg} (h : a.p = b.p) (hb : b.rd) : a.rd := by
  simp only [PMsg.p, MsgP.mk.injEq] at h
  obtain ⟨-, h1, -, -, h2, h3, -⟩ := h
  have h3 := i2_inj h3
  refine ⟨⟨by have := congrArg List.length h1; simp at this; rw [this]; exact hb.es.1, fun e he => ?_⟩, by rw [h2]; exact hb.cf, by rw [h3]; exact hb.d⟩
  have : e.p ∈ b.es.map Ent.p := by rw [← h1]; exact List.mem_map_of_mem he
  obtain ⟨f, hf, hfe⟩ := List.mem_map.1 this
  have := hb.es.2 f hf
  simp only [Ent.p, EntP.mk.injEq] at hfe
  obtain ⟨g1, g2, g3, g4⟩ := hfe
  have g4 := i2_inj g4
  exact ⟨by rw [← g1]; exact this.ix, by rw [← g2]; exact this.tm, by rw [← g3]; exact this.kd, by rw [← g4]; exact this.d⟩
/-! CutMsg. -/
noncomputable def lCm : {F : LF // lowerF Try.prog 58 = some F} := ⟨_, rfl⟩
def Ent.cutM (e : Ent) : Ent := ⟨e.ix, e.tm, e.kd, e.z, e.d.take 100, none⟩
def PMsg.cut (m : PMsg) : PMsg := ⟨m.kd, m.fr, m.to, m.tm, m.ix, m.lt, m.cm, true, (m.es.take 8).map Ent.cutM, m.ok, m.hint, m.cz, m.cf.take 9, m.dz, m.d.take 100, m.off, m.sz, m.ctx⟩
def rowM (m : PMsg) (x y : XC) : List XC := [.p (.int .i64 m.kd), .p (.int .i64 m.fr), .p (.int .i64 m.to), .p (.int .i64 m.tm), .p (.int .i64 m.ix), .p (.int .i64 m.lt), .p (.int .i64 m.cm), x, .p (.bs m.ok), .p (.int .i64 m.hint), y, .p (.tz m.dz 1 (byP m.d) none), .p (.int .i64 m.off), .p (.int .i64 m.sz), .p (.int .i64 m.ctx)]
theorem cm_loop (m : PMsg) (z : Bool) (y : XC) (l : List Ent) (hl : l.length ≤ 8) (Q : QX) (hq : Q (.exit 0) [(1, .c (.ptr 0 0)), (2, .c (.ptr 1 0)), (3, accV 2 4 (entP (l.map Ent.cutM)))] ⟨[(2, accO 4 (entP (l.map Ent.cutM))), (1, some (.row zrow true)), (0, some (.row (rowM m (.p (.tz z 4 (entP l) none)) (.p (.tz m.cz 1 (inP m.cf) none))) true))], 3⟩) :
    ∀ (rest pre : List Ent), l = pre ++ rest → XH Try.prog base lCm.1.n 0 (lCm.1.c.lp 0) [(1, .c (.ptr 0 0)), (2, .c (.ptr 1 0)), (4, .c (.p (.int .i64 pre.length))), (3, accV 2 4 (entP (pre.map Ent.cutM)))] ⟨[(2, accO 4 (entP (pre.map Ent.cutM))), (1, some (.row zrow true)), (0, some (.row (rowM m (.p (.tz z 4 (entP l) none)) (.p (.tz m.cz 1 (inP m.cf) none))) true))], 3⟩ Q := by
  intro rest
  induction rest with
  | nil =>
    intro pre hp
    simp at hp
    subst hp
    refine M.round (M.go rfl ?_)
    refine M.cond rfl (fun hc => absurd hc (by rw [entP_len]; omega)) (fun hc => ?_)
    refine M.ren [(0, 0), (1, 1), (2, 2)] ?_ trivial rfl (by repeat' (first | exact True.intro | refine ⟨⟨_, _, rfl, rfl, Wk.rfl⟩, ?_⟩ | refine ⟨⟨_, _, accV_ren rfl, rfl, Wk.rfl⟩, ?_⟩ | refine ⟨⟨_, _, accV_ren rfl, rfl, Wk.acc0⟩, ?_⟩ | refine ⟨⟨_, _, rfl, rfl, Wk.uncap⟩, ?_⟩ | refine ⟨⟨_, _, rfl, rfl, Wk.nil⟩, ?_⟩)) (by repeat' (first | exact True.intro | refine ⟨⟨_, _, _, rfl, rfl, rfl, WkO.rfl⟩, ?_⟩ | refine HeapOK.acc rfl rfl ?_ | refine HeapOK.es rfl rfl ?_)) (e' := [(1, .c (.ptr 0 0)), (2, .c (.ptr 1 0)), (3, accV 2 4 (entP (l.map Ent.cutM)))]) (h' := ⟨[(2, accO 4 (entP (l.map Ent.cutM))), (1, some (.row zrow true)), (0, some (.row (rowM m (.p (.tz z 4 (entP l) none)) (.p (.tz m.cz 1 (inP m.cf) none))) true))], 3⟩)
    exact M.exit (M.go rfl (M.done hq))
  | cons e rest ih =>
    intro pre hp
    have hlen : (entP l).length = pre.length + (rest.length + 1) := by rw [hp]; simp [entP]
    have hu : (entP l)[((pre.length : Int)).toNat]? = some e.pc := by rw [hp]; exact at_app _ _ _ _
    have hll : pre.length < 8 := by rw [hp] at hl; simp at hl; omega
    refine M.round (M.go rfl ?_)
    refine M.cond rfl (fun hc => ?_) (fun hc => absurd (by omega) hc)
    refine M.go rfl ?_
    refine M.op trivial (SOp.ia rfl rfl (by omega) hu) ?_
    refine M.op trivial (SOp.ldne rfl hu rfl rfl rfl) ?_
    refine M.go rfl ?_
    refine M.use0 trivial (short_spec e.z (byP e.d) e.c 100 (by omega)) rfl rfl rfl ?_
    refine M.go rfl ?_
    rw [show (byP e.d).take 100 = byP (e.d.take 100) by simp [byP, List.map_take]]
    have hla : (entP (pre.map Ent.cutM)).length = pre.length := by simp [entP]
    refine M.acc trivial rfl rfl rfl (.own rfl rfl) (by simp) (by rw [hla]; simp; omega) ?_
    refine M.go rfl ?_
    have hw2 : IntKind.i64.wrap ((pre.length : Int) + 1) = ((pre ++ [e]).length : Int) := by rw [wr64 (by omega) (by omega)]; simp
    rw [hw2]
    have ih' := ih (pre ++ [e]) (by rw [hp]; simp)
    rw [show entP ((pre ++ [e]).map Ent.cutM) = entP (pre.map Ent.cutM) ++ [e.cutM.pc] by simp [entP]] at ih'
    exact M.again (XH.ren [(0, 0), (1, 1), (2, 5)] ih' rfl (by repeat' (first | exact True.intro | refine ⟨⟨_, _, rfl, rfl, Wk.rfl⟩, ?_⟩ | refine ⟨⟨_, _, accV_ren rfl, rfl, Wk.rfl⟩, ?_⟩ | refine ⟨⟨_, _, accV_ren rfl, rfl, Wk.acc0⟩, ?_⟩ | refine ⟨⟨_, _, rfl, rfl, Wk.uncap⟩, ?_⟩ | refine ⟨⟨_, _, rfl, rfl, Wk.nil⟩, ?_⟩)) (by repeat' (first | exact True.intro | refine ⟨⟨_, _, _, rfl, rfl, rfl, WkO.rfl⟩, ?_⟩ | refine HeapOK.acc rfl rfl ?_ | refine HeapOK.es rfl rfl ?_)))
theorem CutMsg_spec (m : PMsg) (hl : m.es.length ≤ 100000000000000) (hc : m.cf.length ≤ 100000000000000) : CallS Try.prog base 58 [m.v] ⟨[], 0⟩ m.cut.v ⟨[], 0⟩ := by
  refine CallS.of noNG lCm.2 rfl (M.start (M.go rfl ?_))
  have hil : (inP m.cf).length = m.cf.length := by simp [inP]
  obtain ⟨l, hle⟩ : ∃ l, l = m.es.take 8 := ⟨_, rfl⟩
  have hll : l.length ≤ 8 := by rw [hle]; simp; omega
  refine M.midV [(1, .c (.ptr 0 0)), (2, .c (.ptr 1 0))] ⟨[(1, some (.row zrow true)), (0, some (.row (rowM m (.p (.tz m.ez 4 (entP l) none)) (.p (.tz m.cz 1 (inP m.cf) none))) true))], 2⟩ ?_ ?_
  · refine M.cond rfl (fun h => ?_) (fun h => ?_)
    · rw [entP_len] at h
      refine M.go rfl ?_
      refine M.op trivial (SOp.sl (l := 0) (r := 8) rfl rfl ⟨_, _, rfl, by omega, rfl⟩ (by omega) (by rw [entP_len]; omega)) ?_
      rw [show ((entP m.es).drop 0).take (8 - 0) = entP l by rw [hle]; simp [entP, List.map_take]]
      have hne : entP l ≠ [] := by intro e; have := congrArg List.length e; rw [entP_len, hle, List.length_take, List.length_nil] at this; omega
      refine M.go rfl ?_
      refine M.done ⟨rfl, ?_⟩
      exact Sh.ren [(0, 0), (1, 1)] rfl (by repeat' (first | exact True.intro | refine ⟨⟨_, _, rfl, rfl, Wk.rfl⟩, ?_⟩ | refine ⟨⟨_, _, accV_ren rfl, rfl, Wk.rfl⟩, ?_⟩ | refine ⟨⟨_, _, accV_ren rfl, rfl, Wk.acc0⟩, ?_⟩ | refine ⟨⟨_, _, rfl, rfl, Wk.uncap⟩, ?_⟩ | refine ⟨⟨_, _, rfl, rfl, Wk.nil⟩, ?_⟩)) ⟨⟨_, _, _, rfl, rfl, rfl, WkO.rfl⟩, ⟨_, _, _, rfl, rfl, rfl, WkO.row ⟨Wk.rfl, Wk.rfl, Wk.rfl, Wk.rfl, Wk.rfl, Wk.rfl, Wk.rfl, Wk.some hne, Wk.rfl, Wk.rfl, Wk.rfl, Wk.rfl, Wk.rfl, Wk.rfl, Wk.rfl, trivial⟩⟩, trivial⟩
    · rw [entP_len] at h
      refine M.go rfl ?_
      refine M.done ⟨rfl, ?_⟩
      rw [hle, List.take_of_length_le (by omega)]
      exact Sh.ren [(0, 0), (1, 1)] rfl (by repeat' (first | exact True.intro | refine ⟨⟨_, _, rfl, rfl, Wk.rfl⟩, ?_⟩ | refine ⟨⟨_, _, accV_ren rfl, rfl, Wk.rfl⟩, ?_⟩ | refine ⟨⟨_, _, accV_ren rfl, rfl, Wk.acc0⟩, ?_⟩ | refine ⟨⟨_, _, rfl, rfl, Wk.uncap⟩, ?_⟩ | refine ⟨⟨_, _, rfl, rfl, Wk.nil⟩, ?_⟩)) (by repeat' (first | exact True.intro | refine ⟨⟨_, _, _, rfl, rfl, rfl, WkO.rfl⟩, ?_⟩ | refine HeapOK.acc rfl rfl ?_ | refine HeapOK.es rfl rfl ?_))
  · refine M.go rfl ?_
    refine M.loop (XH.ren [(0, 0), (1, 1), (2, 2)] (cm_loop m m.ez (.p (.tz m.cz 1 (inP m.cf) none)) l hll _ ?_ l [] rfl) rfl (by repeat' (first | exact True.intro | refine ⟨⟨_, _, rfl, rfl, Wk.rfl⟩, ?_⟩ | refine ⟨⟨_, _, accV_ren rfl, rfl, Wk.rfl⟩, ?_⟩ | refine ⟨⟨_, _, accV_ren rfl, rfl, Wk.acc0⟩, ?_⟩ | refine ⟨⟨_, _, rfl, rfl, Wk.uncap⟩, ?_⟩ | refine ⟨⟨_, _, rfl, rfl, Wk.nil⟩, ?_⟩)) (by repeat' (first | exact True.intro | refine ⟨⟨_, _, _, rfl, rfl, rfl, WkO.rfl⟩, ?_⟩ | refine HeapOK.acc rfl rfl ?_ | refine HeapOK.es rfl rfl ?_)))
    refine M.q (M.goN 2 rfl ?_)
    refine M.accF (i := 3) rfl rfl ?_
    refine M.go rfl ?_
    refine M.midV [(1, .c (.ptr 0 0)), (2, .c (.ptr 1 0))] ⟨[(1, some (.row zrow true)), (0, some (.row (rowM m (.p (.tz true 4 (entP (l.map Ent.cutM)) none)) (.p (.tz m.cz 1 (inP (m.cf.take 9)) none))) true))], 2⟩ ?_ ?_
    · refine M.cond rfl (fun h => ?_) (fun h => ?_)
      · rw [hil] at h
        refine M.go rfl ?_
        refine M.op trivial (SOp.sl (l := 0) (r := 9) rfl rfl ⟨_, _, rfl, by omega, rfl⟩ (by omega) (by rw [hil]; omega)) ?_
        rw [show ((inP m.cf).drop 0).take (9 - 0) = inP (m.cf.take 9) by simp [inP, List.map_take]]
        have hne : inP (m.cf.take 9) ≠ [] := by intro e; have := congrArg List.length e; rw [inP, List.length_map, List.length_take, List.length_nil] at this; omega
        refine M.go rfl ?_
        refine M.done ⟨rfl, ?_⟩
        exact Sh.ren [(0, 0), (1, 1)] rfl (by repeat' (first | exact True.intro | refine ⟨⟨_, _, rfl, rfl, Wk.rfl⟩, ?_⟩ | refine ⟨⟨_, _, accV_ren rfl, rfl, Wk.rfl⟩, ?_⟩ | refine ⟨⟨_, _, accV_ren rfl, rfl, Wk.acc0⟩, ?_⟩ | refine ⟨⟨_, _, rfl, rfl, Wk.uncap⟩, ?_⟩ | refine ⟨⟨_, _, rfl, rfl, Wk.nil⟩, ?_⟩)) ⟨⟨_, _, _, rfl, rfl, rfl, WkO.rfl⟩, ⟨_, _, _, rfl, rfl, rfl, WkO.row ⟨Wk.rfl, Wk.rfl, Wk.rfl, Wk.rfl, Wk.rfl, Wk.rfl, Wk.rfl, Wk.rfl, Wk.rfl, Wk.rfl, Wk.some hne, Wk.rfl, Wk.rfl, Wk.rfl, Wk.rfl, trivial⟩⟩, trivial⟩
      · rw [hil] at h
        refine M.go rfl ?_
        refine M.done ⟨rfl, ?_⟩
        rw [List.take_of_length_le (by omega)]
        exact Sh.ren [(0, 0), (1, 1)] rfl (by repeat' (first | exact True.intro | refine ⟨⟨_, _, rfl, rfl, Wk.rfl⟩, ?_⟩ | refine ⟨⟨_, _, accV_ren rfl, rfl, Wk.rfl⟩, ?_⟩ | refine ⟨⟨_, _, accV_ren rfl, rfl, Wk.acc0⟩, ?_⟩ | refine ⟨⟨_, _, rfl, rfl, Wk.uncap⟩, ?_⟩ | refine ⟨⟨_, _, rfl, rfl, Wk.nil⟩, ?_⟩)) (by repeat' (first | exact True.intro | refine ⟨⟨_, _, _, rfl, rfl, rfl, WkO.rfl⟩, ?_⟩ | refine HeapOK.acc rfl rfl ?_ | refine HeapOK.es rfl rfl ?_))
    · refine M.go rfl ?_
      refine M.use0 trivial (short_spec m.dz (byP m.d) none 100 (by omega)) rfl rfl rfl ?_
      refine M.go rfl ?_
      rw [show (byP m.d).take 100 = byP (m.d.take 100) by simp [byP, List.map_take], hle]
      exact M.ret (M.go rfl (M.done (finQ.ret [] rfl rfl rfl (by first | exact Wk.rfl | exact Wk.uncap | exact Wk.nil | exact Wk.b1 rfl | exact Wk.t2 Wk.rfl (Wk.b1 rfl)) (by repeat' (first | exact True.intro | refine ⟨⟨_, _, _, rfl, rfl, rfl, WkO.rfl⟩, ?_⟩ | refine HeapOK.acc rfl rfl ?_ | refine HeapOK.es rfl rfl ?_)))))
end Go.Proofs.Yteegdhfekemhmaa

namespace Go.Proofs.Yteegdhfekemhmaa
open Go.RowKit Sim Go Sym
set_option maxRecDepth 100000
set_option linter.unusedVariables false
set_option linter.unusedSimpArgs false
variable {base : Nat}
noncomputable def lRCa : {F : LF // lowerF Try.prog 109 = some F} := ⟨_, rfl⟩
def PLog.rconfN (L : PLog) (i : Int) : Nat → Bool × List Int × Option Nat
  | 0 => (L.S.cz, L.S.cf, L.S.cc)
  | j + 1 => if (L.E.getD j default).kd = 3 ∧ (L.E.getD j default).ix ≤ i then (true, selI (nI (L.E.getD j default).d), none) else L.rconfN i j
def rconfV (r : Bool × List Int × Option Nat) : XV := .c (.p (.tz r.1 1 (inP r.2.1) r.2.2))
theorem rca_loop (L : PLog) (hL : L.ok) (i : Int) (Q : QX) :
    ∀ (j : Nat) (v : Int), v = (j : Int) - 1 → j ≤ L.E.length → (L.rconfN i j = L.rconfN i 0 → Q (.exit 0) [(0, .c (.ptr 0 0))] L.h) → (∀ r, L.rconfN i j = r → Q .ret [(4, rconfV r)] L.h) → XH Try.prog base lRCa.1.n 1 (lRCa.1.c.lp 0) [(0, .c (.ptr 0 0)), (1, .c (.p (.int .i64 i))), (5, .c (.p (.int .i64 v)))] L.h Q := by
  intro j
  induction j with
  | zero =>
    intro v hv hj hq hr
    refine M.round (M.go rfl ?_)
    refine M.cond rfl (fun hc => absurd hc (by omega)) (fun hc => ?_)
    refine M.ren [(0, 0)] ?_ trivial rfl (by repeat' (first | exact True.intro | refine ⟨⟨_, _, rfl, rfl, Wk.rfl⟩, ?_⟩ | refine ⟨⟨_, _, accV_ren rfl, rfl, Wk.rfl⟩, ?_⟩ | refine ⟨⟨_, _, accV_ren rfl, rfl, Wk.acc0⟩, ?_⟩ | refine ⟨⟨_, _, rfl, rfl, Wk.uncap⟩, ?_⟩ | refine ⟨⟨_, _, rfl, rfl, Wk.nil⟩, ?_⟩)) (by repeat' (first | exact True.intro | refine ⟨⟨_, _, _, rfl, rfl, rfl, WkO.rfl⟩, ?_⟩ | refine HeapOK.acc rfl rfl ?_ | refine HeapOK.es rfl rfl ?_)) (e' := [(0, .c (.ptr 0 0))]) (h' := L.h)
    exact M.exit (M.go rfl (M.done (hq rfl)))
  | succ j ih =>
    intro v hv hj hq hr
    obtain rfl : v = (j : Int) := by omega
    have hlen := hL.len
    have hjl : j < L.E.length := by omega
    obtain ⟨e, he⟩ : ∃ e, L.E.getD j default = e := ⟨_, rfl⟩
    have hE : L.E[j]? = some e := by rw [← he, List.getD_eq_getElem?_getD, List.getElem?_eq_getElem hjl]; rfl
    have hu : (entP L.E)[((j : Int)).toNat]? = some e.pc := by rw [entP, List.getElem?_map, Int.toNat_natCast, hE]; rfl
    have heok : e.ok := hL.E e (List.mem_of_getElem? hE)
    have hw : IntKind.i64.wrap ((j : Int) - 1) = (j : Int) - 1 := wr64 (by omega) (by omega)
    have next : ¬ (e.kd = 3 ∧ e.ix ≤ i) → XH Try.prog base lRCa.1.n 1 (lRCa.1.c.lp 0) [(0, .c (.ptr 0 0)), (1, .c (.p (.int .i64 i))), (5, .c (.p (.int .i64 ((j : Int) - 1))))] L.h Q := fun h => by
      have e0 : L.rconfN i (j + 1) = L.rconfN i j := by rw [PLog.rconfN, he, if_neg h]
      rw [e0] at hq hr
      exact ih _ rfl (by omega) hq hr
    refine M.round (M.go rfl ?_)
    refine M.cond rfl (fun hc => ?_) (fun hc => absurd (by omega) hc)
    refine M.go rfl ?_
    refine M.op trivial (SOp.ia rfl rfl (by omega) hu) ?_
    refine M.go rfl ?_
    refine M.op trivial (SOp.ld1e rfl hu rfl rfl rfl) ?_
    refine M.go rfl ?_
    refine M.dec rfl (fun h1 => ?_) (fun h1 => ?_)
    · refine M.go rfl ?_
      refine M.op rfl (SOp.ia rfl rfl (by omega) hu) ?_
      refine M.go rfl ?_
      refine M.op rfl (SOp.ld1e rfl hu rfl rfl rfl) ?_
      refine M.go rfl ?_
      refine M.cond rfl (fun h2 => ?_) (fun h2 => ?_)
      · refine M.go rfl ?_
        refine M.op trivial (SOp.ia rfl rfl (by omega) hu) ?_
        refine M.go rfl ?_
        refine M.op trivial (SOp.ld1e rfl hu rfl rfl rfl) ?_
        refine M.go rfl ?_
        refine M.use0 trivial (ids_spec e.z e.c e.d heok.d) rfl rfl rfl ?_
        refine M.go rfl ?_
        refine M.ren [(0, 0)] ?_ trivial rfl (by repeat' (first | exact True.intro | refine ⟨⟨_, _, rfl, rfl, Wk.rfl⟩, ?_⟩ | refine ⟨⟨_, _, accV_ren rfl, rfl, Wk.rfl⟩, ?_⟩ | refine ⟨⟨_, _, accV_ren rfl, rfl, Wk.acc0⟩, ?_⟩ | refine ⟨⟨_, _, rfl, rfl, Wk.uncap⟩, ?_⟩ | refine ⟨⟨_, _, rfl, rfl, Wk.nil⟩, ?_⟩)) (by repeat' (first | exact True.intro | refine ⟨⟨_, _, _, rfl, rfl, rfl, WkO.rfl⟩, ?_⟩ | refine HeapOK.acc rfl rfl ?_ | refine HeapOK.es rfl rfl ?_)) (e' := [(4, rconfV (true, selI (nI e.d), none))]) (h' := L.h)
        exact M.ret (M.go rfl (M.done (hr _ (by rw [PLog.rconfN, he, if_pos ⟨h1, h2⟩]))))
      · refine M.go rfl ?_
        rw [hw]
        exact M.again (XH.ren [(0, 0)] (next (fun h => h2 h.2)) rfl (by repeat' (first | exact True.intro | refine ⟨⟨_, _, rfl, rfl, Wk.rfl⟩, ?_⟩ | refine ⟨⟨_, _, accV_ren rfl, rfl, Wk.rfl⟩, ?_⟩ | refine ⟨⟨_, _, accV_ren rfl, rfl, Wk.acc0⟩, ?_⟩ | refine ⟨⟨_, _, rfl, rfl, Wk.uncap⟩, ?_⟩ | refine ⟨⟨_, _, rfl, rfl, Wk.nil⟩, ?_⟩)) (by repeat' (first | exact True.intro | refine ⟨⟨_, _, _, rfl, rfl, rfl, WkO.rfl⟩, ?_⟩ | refine HeapOK.acc rfl rfl ?_ | refine HeapOK.es rfl rfl ?_)))
    · refine M.go rfl ?_
      rw [hw]
      exact M.again (XH.ren [(0, 0)] (next (fun h => h1 h.1)) rfl (by repeat' (first | exact True.intro | refine ⟨⟨_, _, rfl, rfl, Wk.rfl⟩, ?_⟩ | refine ⟨⟨_, _, accV_ren rfl, rfl, Wk.rfl⟩, ?_⟩ | refine ⟨⟨_, _, accV_ren rfl, rfl, Wk.acc0⟩, ?_⟩ | refine ⟨⟨_, _, rfl, rfl, Wk.uncap⟩, ?_⟩ | refine ⟨⟨_, _, rfl, rfl, Wk.nil⟩, ?_⟩)) (by repeat' (first | exact True.intro | refine ⟨⟨_, _, _, rfl, rfl, rfl, WkO.rfl⟩, ?_⟩ | refine HeapOK.acc rfl rfl ?_ | refine HeapOK.es rfl rfl ?_)))
theorem RConfAt_spec (L : PLog) (hL : L.ok) (i : Int) : CallS Try.prog base 109 [.c (.ptr 0 0), .c (.p (.int .i64 i))] L.h (rconfV (L.rconfN i L.E.length)) L.h := by
  have hlen := hL.len
  refine CallS.of noNG lRCa.2 rfl (M.start (M.go rfl ?_))
  have hw : IntKind.i64.wrap (((entP L.E).length : Int) - 1) = (L.E.length : Int) - 1 := by rw [entP_len]; exact wr64 (by omega) (by omega)
  rw [hw]
  refine M.loop (XH.ren [(0, 0)] (rca_loop L hL i _ L.E.length _ rfl (Nat.le_refl _) (fun h => ?_) (fun r h => ?_)) rfl (by repeat' (first | exact True.intro | refine ⟨⟨_, _, rfl, rfl, Wk.rfl⟩, ?_⟩ | refine ⟨⟨_, _, accV_ren rfl, rfl, Wk.rfl⟩, ?_⟩ | refine ⟨⟨_, _, accV_ren rfl, rfl, Wk.acc0⟩, ?_⟩ | refine ⟨⟨_, _, rfl, rfl, Wk.uncap⟩, ?_⟩ | refine ⟨⟨_, _, rfl, rfl, Wk.nil⟩, ?_⟩)) (by repeat' (first | exact True.intro | refine ⟨⟨_, _, _, rfl, rfl, rfl, WkO.rfl⟩, ?_⟩ | refine HeapOK.acc rfl rfl ?_ | refine HeapOK.es rfl rfl ?_)))
  · refine M.q (M.go rfl ?_)
    rw [h]
    exact M.ret (M.go rfl (M.done (finQ.ret [(0, 0)] rfl rfl rfl (by first | exact Wk.rfl | exact Wk.uncap | exact Wk.nil | exact Wk.b1 rfl | exact Wk.t2 Wk.rfl (Wk.b1 rfl)) (by repeat' (first | exact True.intro | refine ⟨⟨_, _, _, rfl, rfl, rfl, WkO.rfl⟩, ?_⟩ | refine HeapOK.acc rfl rfl ?_ | refine HeapOK.es rfl rfl ?_)))))
  · refine M.q (M.go rfl ?_)
    rw [h]
    exact M.done (finQ.ret [(0, 0)] rfl rfl rfl Wk.rfl (by repeat' (first | exact True.intro | refine ⟨⟨_, _, _, rfl, rfl, rfl, WkO.rfl⟩, ?_⟩ | refine HeapOK.acc rfl rfl ?_ | refine HeapOK.es rfl rfl ?_)))
noncomputable def lRCo : {F : LF // lowerF Try.prog 106 = some F} := ⟨_, rfl⟩
theorem RConf_spec (L : PLog) (hL : L.ok) : CallS Try.prog base 106 [.c (.ptr 0 0)] L.h (rconfV (L.rconfN L.last L.E.length)) L.h := by
  refine CallS.of noNG lRCo.2 rfl (M.start (M.go rfl ?_))
  refine M.use (by first | exact True.intro | exact rfl) (RLast_spec L hL) [(0, 0)] rfl rfl rfl (by repeat' (first | exact True.intro | refine ⟨⟨_, _, _, rfl, rfl, rfl, WkO.rfl⟩, ?_⟩ | refine HeapOK.acc rfl rfl ?_ | refine HeapOK.es rfl rfl ?_)) rfl rfl ?_
  refine M.go rfl ?_
  refine M.use (by first | exact True.intro | exact rfl) (RConfAt_spec L hL L.last) [(0, 0)] rfl rfl rfl (by repeat' (first | exact True.intro | refine ⟨⟨_, _, _, rfl, rfl, rfl, WkO.rfl⟩, ?_⟩ | refine HeapOK.acc rfl rfl ?_ | refine HeapOK.es rfl rfl ?_)) rfl rfl ?_
  refine M.go rfl ?_
  exact M.ret (M.go rfl (M.done (finQ.ret [(0, 0)] rfl rfl rfl (by first | exact Wk.rfl | exact Wk.uncap | exact Wk.nil | exact Wk.b1 rfl | exact Wk.t2 Wk.rfl (Wk.b1 rfl)) (by repeat' (first | exact True.intro | refine ⟨⟨_, _, _, rfl, rfl, rfl, WkO.rfl⟩, ?_⟩ | refine HeapOK.acc rfl rfl ?_ | refine HeapOK.es rfl rfl ?_)))))
end Go.Proofs.Yteegdhfekemhmaa

namespace Go.Proofs.Yteegdhfekemhmaa
open Go.RowKit Sim Go Sym
set_option maxRecDepth 100000
set_option linter.unusedVariables false
set_option linter.unusedSimpArgs false
variable {base : Nat}
noncomputable def lRSl : {F : LF // lowerF Try.prog 111 = some F} := ⟨_, rfl⟩
def PLog.rslice (L : PLog) (f n : Int) : List Ent := if f ≤ L.S.ix ∨ L.last < f ∨ n < 1 then [] else (L.E.drop (f - L.S.ix - 1).toNat).take n.toNat
theorem RSlice_spec (L : PLog) (hL : L.ok) (f n : Int) (hf : I64 f) : CallS Try.prog base 111 [.c (.ptr 0 0), .c (.p (.int .i64 f)), .c (.p (.int .i64 n))] L.h (.c (.p (.tz true 4 (entP (L.rslice f n)) none))) L.h := by
  have hlen := hL.len
  refine CallS.of noNG lRSl.2 rfl (M.start (M.go rfl ?_))
  refine M.dec rfl (fun h2 => ?_) (fun h2 => ?_)
  · refine M.go rfl ?_
    rw [show L.rslice f n = [] from if_pos (.inl h2)]
    exact M.ret (M.go rfl (M.done (finQ.ret [(0, 0)] rfl rfl rfl (by first | exact Wk.rfl | exact Wk.uncap | exact Wk.nil | exact Wk.b1 rfl | exact Wk.t2 Wk.rfl (Wk.b1 rfl)) (by repeat' (first | exact True.intro | refine ⟨⟨_, _, _, rfl, rfl, rfl, WkO.rfl⟩, ?_⟩ | refine HeapOK.acc rfl rfl ?_ | refine HeapOK.es rfl rfl ?_)))))
  refine M.go rfl ?_
  refine M.use (by first | exact True.intro | exact rfl) (RLast_spec L hL) [(0, 0)] rfl rfl rfl (by repeat' (first | exact True.intro | refine ⟨⟨_, _, _, rfl, rfl, rfl, WkO.rfl⟩, ?_⟩ | refine HeapOK.acc rfl rfl ?_ | refine HeapOK.es rfl rfl ?_)) rfl rfl ?_
  refine M.go rfl ?_
  refine M.dec rfl (fun h3 => ?_) (fun h3 => ?_)
  · refine M.go rfl ?_
    rw [show L.rslice f n = [] from if_pos (.inr (.inl h3))]
    exact M.ret (M.go rfl (M.done (finQ.ret [(0, 0)] rfl rfl rfl (by first | exact Wk.rfl | exact Wk.uncap | exact Wk.nil | exact Wk.b1 rfl | exact Wk.t2 Wk.rfl (Wk.b1 rfl)) (by repeat' (first | exact True.intro | refine ⟨⟨_, _, _, rfl, rfl, rfl, WkO.rfl⟩, ?_⟩ | refine HeapOK.acc rfl rfl ?_ | refine HeapOK.es rfl rfl ?_)))))
  refine M.go rfl ?_
  refine M.cond rfl (fun h8 => ?_) (fun h8 => ?_)
  · refine M.go rfl ?_
    rw [show L.rslice f n = [] from if_pos (.inr (.inr h8))]
    exact M.ret (M.go rfl (M.done (finQ.ret [(0, 0)] rfl rfl rfl (by first | exact Wk.rfl | exact Wk.uncap | exact Wk.nil | exact Wk.b1 rfl | exact Wk.t2 Wk.rfl (Wk.b1 rfl)) (by repeat' (first | exact True.intro | refine ⟨⟨_, _, _, rfl, rfl, rfl, WkO.rfl⟩, ?_⟩ | refine HeapOK.acc rfl rfl ?_ | refine HeapOK.es rfl rfl ?_)))))
  refine M.go rfl ?_
  rw [show L.rslice f n = (L.E.drop (f - L.S.ix - 1).toNat).take n.toNat from if_neg (by omega)]
  refine M.regD (MD.go rfl ?_)
  rw [hL.wrap hf (by omega)]
  have hle : (f - L.S.ix - 1).toNat ≤ (entP L.E).length := by rw [entP_len]; have := hL.ix; unfold PLog.last at h3; omega
  refine MD.op trivial (SOp.sl rfl ⟨_, _, rfl, by omega, rfl⟩ rfl hle (Nat.le_refl _)) (MD.go rfl (MD.nil mixed (Fnl.nodup rfl) (M.go rfl ?_)))
  rw [drop_take]
  obtain ⟨X, hX⟩ : ∃ X, X = L.E.drop (f - L.S.ix - 1).toNat := ⟨_, rfl⟩
  have hXl : X.length ≤ 10000000000 := by rw [hX]; simp; omega
  rw [← hX]
  have hel : (entP X).length = X.length := entP_len X
  refine M.cond rfl (fun h9 => ?_) (fun h9 => ?_)
  · refine M.go rfl ?_
    refine M.op trivial (SOp.sl (l := 0) (r := n.toNat) rfl rfl ⟨_, _, rfl, by omega, rfl⟩ (by omega) (by omega)) ?_
    refine M.go rfl ?_
    have e1 : ((entP X).drop 0).take (n.toNat - 0) = entP (X.take n.toNat) := by simp [entP, List.map_take]
    rw [e1]
    refine M.appNF trivial rfl rfl .tz (by rw [entP_len]; simp; omega) ?_
    refine M.go rfl ?_
    exact M.ret (M.go rfl (M.done (finQ.ret [(0, 0)] rfl rfl rfl (by first | exact Wk.rfl | exact Wk.uncap | exact Wk.nil | exact Wk.b1 rfl | exact Wk.t2 Wk.rfl (Wk.b1 rfl)) (by repeat' (first | exact True.intro | refine ⟨⟨_, _, _, rfl, rfl, rfl, WkO.rfl⟩, ?_⟩ | refine HeapOK.acc rfl rfl ?_ | refine HeapOK.es rfl rfl ?_)))))
  · refine M.go rfl ?_
    refine M.appNF trivial rfl rfl .tz (by rw [entP_len]; omega) ?_
    refine M.go rfl ?_
    rw [List.take_of_length_le (by omega)]
    exact M.ret (M.go rfl (M.done (finQ.ret [(0, 0)] rfl rfl rfl (by first | exact Wk.rfl | exact Wk.uncap | exact Wk.nil | exact Wk.b1 rfl | exact Wk.t2 Wk.rfl (Wk.b1 rfl)) (by repeat' (first | exact True.intro | refine ⟨⟨_, _, _, rfl, rfl, rfl, WkO.rfl⟩, ?_⟩ | refine HeapOK.acc rfl rfl ?_ | refine HeapOK.es rfl rfl ?_)))))
/-! Put. -/
noncomputable def lRPut : {F : LF // lowerF Try.prog 54 = some F} := ⟨_, rfl⟩
def PLog.rputOk (L : PLog) (l : List Ent) : Bool := match l with
  | [] => false
  | e :: _ => decide (L.S.ix < e.ix) && (decide (e.ix ≤ L.last + 1) && goodF (e.ix - 1) (L.term (e.ix - 1)).1 l)
def PLog.rput (L : PLog) (l : List Ent) : PLog := ⟨L.S, L.E.take ((l.headD default).ix - L.S.ix - 1).toNat ++ l, true, none⟩
theorem RPut_nil (L : PLog) (z : Bool) (c : Option Nat) : CallS Try.prog base 54 [.c (.ptr 0 0), .c (.p (.tz z 4 [] c))] L.h (.c (.p (.bs false))) L.h := by
  refine CallS.of noNG lRPut.2 rfl (M.start (M.go rfl ?_))
  refine M.regF (MF.go rfl ?_)
  refine MF.dec rfl rfl rfl (fun h1 => ?_) (fun h1 => absurd rfl h1)
  refine MF.go rfl (MF.nil mixed (Fnl.nodup rfl) rfl ⟨trivial, trivial⟩ (M.go rfl ?_))
  exact M.ret (M.go rfl (M.done (finQ.ret [(0, 0)] rfl rfl rfl (by first | exact Wk.rfl | exact Wk.uncap | exact Wk.nil | exact Wk.b1 rfl | exact Wk.t2 Wk.rfl (Wk.b1 rfl)) (by repeat' (first | exact True.intro | refine ⟨⟨_, _, _, rfl, rfl, rfl, WkO.rfl⟩, ?_⟩ | refine HeapOK.acc rfl rfl ?_ | refine HeapOK.es rfl rfl ?_)))))
theorem RPut_no (L : PLog) (hL : L.ok) (hmax : L.last < 9223372036854775807) (z : Bool) (c : Option Nat) (e : Ent) (l : List Ent) (hl : (e :: l).length ≤ 10000000000) (hok : ∀ e' ∈ e :: l, e'.ok) (hno : L.rputOk (e :: l) = false) : CallS Try.prog base 54 [.c (.ptr 0 0), .c (.p (.tz z 4 (entP (e :: l)) c))] L.h (.c (.p (.bs false))) L.h := by
  have he := hok e (by simp)
  have hix := hL.ix
  refine CallS.of noNG lRPut.2 rfl (M.start (M.go rfl ?_))
  refine M.regF (MF.go rfl ?_)
  refine MF.dec rfl rfl rfl (fun h1 => absurd h1 (by simp [entP]; omega)) (fun h1 => ?_)
  refine MF.go rfl ?_
  have hu : (entP (e :: l))[(0 : Int).toNat]? = some e.pc := rfl
  refine MF.op rfl (SOp.ia rfl rfl (by omega) hu) (MF.go rfl ?_)
  refine MF.op rfl (SOp.ld1e rfl hu rfl rfl rfl) (MF.go rfl ?_)
  refine MF.dec rfl rfl rfl (fun h2 => ?_) (fun h2 => ?_)
  · refine MF.go rfl (MF.nil mixed (Fnl.nodup rfl) rfl ⟨trivial, trivial⟩ (M.go rfl ?_))
    exact M.ret (M.go rfl (M.done (finQ.ret [(0, 0)] rfl rfl rfl (by first | exact Wk.rfl | exact Wk.uncap | exact Wk.nil | exact Wk.b1 rfl | exact Wk.t2 Wk.rfl (Wk.b1 rfl)) (by repeat' (first | exact True.intro | refine ⟨⟨_, _, _, rfl, rfl, rfl, WkO.rfl⟩, ?_⟩ | refine HeapOK.acc rfl rfl ?_ | refine HeapOK.es rfl rfl ?_)))))
  · refine MF.go rfl ?_
    refine MF.op rfl (SOp.ia rfl rfl (by omega) hu) (MF.go rfl ?_)
    refine MF.op rfl (SOp.ld1e rfl hu rfl rfl rfl) (MF.go rfl ?_)
    refine MF.use rfl (RLast_spec L hL) [(0, 0)] rfl rfl rfl (by repeat' (first | exact True.intro | refine ⟨⟨_, _, _, rfl, rfl, rfl, WkO.rfl⟩, ?_⟩ | refine HeapOK.acc rfl rfl ?_ | refine HeapOK.es rfl rfl ?_)) rfl rfl ?_
    have hw : IntKind.i64.wrap (L.last + 1) = L.last + 1 := wr64 (by unfold PLog.last; omega) (by omega)
    refine MF.go rfl (MF.nil mixed (Fnl.nodup rfl) rfl ⟨⟨SOp.ld1e rfl hu rfl rfl rfl, trivial⟩, trivial⟩ (M.go rfl ?_))
    rw [hw]
    refine M.cond rfl (fun h3 => ?_) (fun h3 => ?_)
    · refine M.go rfl ?_
      exact M.ret (M.go rfl (M.done (finQ.ret [(0, 0)] rfl rfl rfl (by first | exact Wk.rfl | exact Wk.uncap | exact Wk.nil | exact Wk.b1 rfl | exact Wk.t2 Wk.rfl (Wk.b1 rfl)) (by repeat' (first | exact True.intro | refine ⟨⟨_, _, _, rfl, rfl, rfl, WkO.rfl⟩, ?_⟩ | refine HeapOK.acc rfl rfl ?_ | refine HeapOK.es rfl rfl ?_)))))
    · refine M.go rfl ?_
      refine M.op trivial (SOp.ia rfl rfl (by omega) hu) ?_
      refine M.go rfl ?_
      refine M.op trivial (SOp.ld1e rfl hu rfl rfl rfl) ?_
      refine M.go rfl ?_
      have hw2 : IntKind.i64.wrap (e.ix - 1) = e.ix - 1 := wr64 (by omega) (by omega)
      rw [hw2]
      refine M.use (by first | exact True.intro | exact rfl) (RTerm_spec L hL (e.ix - 1) ⟨by omega, by omega⟩) [(0, 0)] rfl rfl rfl (by repeat' (first | exact True.intro | refine ⟨⟨_, _, _, rfl, rfl, rfl, WkO.rfl⟩, ?_⟩ | refine HeapOK.acc rfl rfl ?_ | refine HeapOK.es rfl rfl ?_)) rfl rfl ?_
      refine M.go rfl ?_
      refine M.op trivial (SOp.ia rfl rfl (by omega) hu) ?_
      refine M.go rfl ?_
      refine M.op trivial (SOp.ld1e rfl hu rfl rfl rfl) ?_
      refine M.go rfl ?_
      rw [hw2]
      refine M.use0 trivial (good_spec z c (e :: l) (e.ix - 1) (L.term (e.ix - 1)).1 (by omega) hok ⟨by omega, by omega⟩) rfl rfl rfl ?_
      refine M.go rfl ?_
      have hg : goodF (e.ix - 1) (L.term (e.ix - 1)).1 (e :: l) = false := by
        rw [PLog.rputOk, decide_eq_true (by omega), decide_eq_true (by omega)] at hno
        simpa using hno
      refine M.condB rfl (fun h4 => ?_) (fun h4 => ?_)
      · refine M.go rfl ?_
        exact M.ret (M.go rfl (M.done (finQ.ret [(0, 0)] rfl rfl rfl (by first | exact Wk.rfl | exact Wk.uncap | exact Wk.nil | exact Wk.b1 rfl | exact Wk.t2 Wk.rfl (Wk.b1 rfl)) (by repeat' (first | exact True.intro | refine ⟨⟨_, _, _, rfl, rfl, rfl, WkO.rfl⟩, ?_⟩ | refine HeapOK.acc rfl rfl ?_ | refine HeapOK.es rfl rfl ?_)))))
      · rw [hg] at h4; cases h4
theorem accV_of {b s m : Nat} {x : PC} {l : List PC} (h : m = (x :: l).length) : Wk (.c (.sl b 0 m s none)) (accV b s (x :: l)) := by subst h; exact Wk.of rfl
theorem RPut_yes (L : PLog) (hL : L.ok) (hmax : L.last < 9223372036854775807) (z : Bool) (c : Option Nat) (e : Ent) (l : List Ent) (hl : (e :: l).length ≤ 10000000000) (hok : ∀ e' ∈ e :: l, e'.ok) (hno : L.rputOk (e :: l) = true) : CallS Try.prog base 54 [.c (.ptr 0 0), .c (.p (.tz z 4 (entP (e :: l)) c))] L.h (.c (.p (.bs true))) (L.rput (e :: l)).h := by
  have he := hok e (by simp)
  have hix := hL.ix
  have hlen := hL.len
  rw [PLog.rputOk] at hno
  simp only [Bool.and_eq_true, decide_eq_true_eq] at hno
  obtain ⟨g1, g2, g3⟩ := hno
  refine CallS.of noNG lRPut.2 rfl (M.start (M.go rfl ?_))
  refine M.regF (MF.go rfl ?_)
  refine MF.dec rfl rfl rfl (fun h1 => absurd h1 (by simp [entP]; omega)) (fun h1 => ?_)
  refine MF.go rfl ?_
  have hu : (entP (e :: l))[(0 : Int).toNat]? = some e.pc := rfl
  refine MF.op rfl (SOp.ia rfl rfl (by omega) hu) (MF.go rfl ?_)
  refine MF.op rfl (SOp.ld1e rfl hu rfl rfl rfl) (MF.go rfl ?_)
  refine MF.dec rfl rfl rfl (fun h2 => absurd h2 (by omega)) (fun h2 => ?_)
  refine MF.go rfl ?_
  refine MF.op rfl (SOp.ia rfl rfl (by omega) hu) (MF.go rfl ?_)
  refine MF.op rfl (SOp.ld1e rfl hu rfl rfl rfl) (MF.go rfl ?_)
  refine MF.use rfl (RLast_spec L hL) [(0, 0)] rfl rfl rfl (by repeat' (first | exact True.intro | refine ⟨⟨_, _, _, rfl, rfl, rfl, WkO.rfl⟩, ?_⟩ | refine HeapOK.acc rfl rfl ?_ | refine HeapOK.es rfl rfl ?_)) rfl rfl ?_
  have hw : IntKind.i64.wrap (L.last + 1) = L.last + 1 := wr64 (by unfold PLog.last; omega) (by omega)
  refine MF.go rfl (MF.nil mixed (Fnl.nodup rfl) rfl ⟨⟨SOp.ld1e rfl hu rfl rfl rfl, trivial⟩, trivial⟩ (M.go rfl ?_))
  rw [hw]
  refine M.cond rfl (fun h3 => absurd h3 (by omega)) (fun h3 => ?_)
  refine M.go rfl ?_
  refine M.op trivial (SOp.ia rfl rfl (by omega) hu) ?_
  refine M.go rfl ?_
  refine M.op trivial (SOp.ld1e rfl hu rfl rfl rfl) ?_
  refine M.go rfl ?_
  have hw2 : IntKind.i64.wrap (e.ix - 1) = e.ix - 1 := wr64 (by omega) (by omega)
  rw [hw2]
  refine M.use (by first | exact True.intro | exact rfl) (RTerm_spec L hL (e.ix - 1) ⟨by omega, by omega⟩) [(0, 0)] rfl rfl rfl (by repeat' (first | exact True.intro | refine ⟨⟨_, _, _, rfl, rfl, rfl, WkO.rfl⟩, ?_⟩ | refine HeapOK.acc rfl rfl ?_ | refine HeapOK.es rfl rfl ?_)) rfl rfl ?_
  refine M.go rfl ?_
  refine M.op trivial (SOp.ia rfl rfl (by omega) hu) ?_
  refine M.go rfl ?_
  refine M.op trivial (SOp.ld1e rfl hu rfl rfl rfl) ?_
  refine M.go rfl ?_
  rw [hw2]
  refine M.use0 trivial (good_spec z c (e :: l) (e.ix - 1) (L.term (e.ix - 1)).1 (by omega) hok ⟨by omega, by omega⟩) rfl rfl rfl ?_
  refine M.go rfl ?_
  refine M.condB rfl (fun h4 => by rw [g3] at h4; cases h4) (fun h4 => ?_)
  refine M.go rfl ?_
  obtain ⟨T, hT⟩ : ∃ T, T = L.E.take (e.ix - L.S.ix - 1).toNat := ⟨_, rfl⟩
  have hTl : T.length ≤ 10000000000 := by rw [hT]; simp; omega
  have hw3 : IntKind.i64.wrap (IntKind.i64.wrap (e.ix - L.S.ix) - 1) = e.ix - L.S.ix - 1 := hL.wrap he.ix (by omega)
  have hle : (e.ix - L.S.ix - 1).toNat ≤ (entP L.E).length := by rw [entP_len]; unfold PLog.last at g2; omega
  have e1 : ((entP L.E).drop 0).take ((e.ix - L.S.ix - 1).toNat - 0) = entP T := by rw [hT]; simp [entP, List.map_take]
  refine M.midV [(0, .c (.ptr 0 0)), (1, .c (.p (.tz z 4 (entP (e :: l)) c))), (7, accV 1 4 (entP T))] ⟨[(1, accO 4 (entP T)), (0, some (.row L.row true))], 2⟩ ?_ ?_
  · refine M.regD (MD.go rfl ?_)
    refine MD.op trivial (SOp.ia rfl rfl (by omega) hu) (MD.go rfl ?_)
    refine MD.op trivial (SOp.ld1e rfl hu rfl rfl rfl) (MD.go rfl ?_)
    rw [hw3]
    refine MD.op trivial (SOp.sl (l := 0) (r := (e.ix - L.S.ix - 1).toNat) rfl rfl ⟨_, _, rfl, by omega, rfl⟩ (by omega) hle) (MD.go rfl ?_)
    rw [e1]
    cases T with
    | nil =>
      refine MD.op trivial (SOp.app0 rfl rfl .tz (.inr ⟨_, _, _, _, rfl⟩)) (MD.go rfl (MD.nil mixed (Fnl.nodup rfl) (M.done ⟨rfl, ?_⟩)))
      exact Sh.ren [(0, 0), (1, 1)] rfl (by repeat' (first | exact True.intro | refine ⟨⟨_, _, rfl, rfl, Wk.rfl⟩, ?_⟩ | refine ⟨⟨_, _, accV_ren rfl, rfl, Wk.rfl⟩, ?_⟩ | refine ⟨⟨_, _, accV_ren rfl, rfl, Wk.acc0⟩, ?_⟩ | refine ⟨⟨_, _, rfl, rfl, Wk.uncap⟩, ?_⟩ | refine ⟨⟨_, _, rfl, rfl, Wk.nil⟩, ?_⟩)) (by repeat' (first | exact True.intro | refine ⟨⟨_, _, _, rfl, rfl, rfl, WkO.rfl⟩, ?_⟩ | refine HeapOK.acc rfl rfl ?_ | refine HeapOK.es rfl rfl ?_))
    | cons t T =>
      refine MD.op trivial (SOp.appN rfl rfl .tz (by simp [entP]) (by rw [entP_len]; omega)) (MD.go rfl (MD.nil mixed (Fnl.nodup rfl) (M.done ⟨rfl, ?_⟩)))
      exact Sh.wk (i := 7) (v' := accV 1 4 (entP (t :: T))) rfl (accV_of rfl) (Sh.ren [(0, 0), (1, 1)] rfl (by repeat' (first | exact True.intro | refine ⟨⟨_, _, rfl, rfl, Wk.rfl⟩, ?_⟩ | refine ⟨⟨_, _, accV_ren rfl, rfl, Wk.rfl⟩, ?_⟩ | refine ⟨⟨_, _, accV_ren rfl, rfl, Wk.acc0⟩, ?_⟩ | refine ⟨⟨_, _, rfl, rfl, Wk.uncap⟩, ?_⟩ | refine ⟨⟨_, _, rfl, rfl, Wk.nil⟩, ?_⟩)) (by repeat' (first | exact True.intro | refine ⟨⟨_, _, _, rfl, rfl, rfl, WkO.rfl⟩, ?_⟩ | refine HeapOK.acc rfl rfl ?_ | refine HeapOK.es rfl rfl ?_)))
  · refine M.go rfl ?_
    refine M.acc trivial rfl rfl rfl .tz (by simp [entP]) (by rw [entP_len, entP_len]; simp at hl ⊢; omega) ?_
    refine M.goN 5 rfl ?_
    refine M.accFR (b0 := 0) (o := 4) (b := 2) rfl rfl rfl rfl rfl ?_
    refine M.go rfl ?_
    rw [show (L.rput (e :: l)).h = ⟨[(0, some (.row [.p (.int .i64 L.S.ix), .p (.int .i64 L.S.tm), .p (.tz L.S.cz 1 (inP L.S.cf) L.S.cc), .p (.tz L.S.dz 1 (byP L.S.d) L.S.dc), .p (.tz true 4 (entP T ++ entP (e :: l)) none)] true))], 1⟩ by rw [PLog.rput, PLog.h, PLog.row, List.headD_cons, ← hT]; simp [entP]]
    exact M.ret (M.go rfl (M.done (finQ.ret [(0, 0)] rfl rfl rfl (by first | exact Wk.rfl | exact Wk.uncap | exact Wk.nil | exact Wk.b1 rfl | exact Wk.t2 Wk.rfl (Wk.b1 rfl)) (by repeat' (first | exact True.intro | refine ⟨⟨_, _, _, rfl, rfl, rfl, WkO.rfl⟩, ?_⟩ | refine HeapOK.acc rfl rfl ?_ | refine HeapOK.es rfl rfl ?_)))))
/-! Compact. -/
noncomputable def lRComp : {F : LF // lowerF Try.prog 55 = some F} := ⟨_, rfl⟩
def PLog.rconf (L : PLog) (i : Int) : Bool × List Int × Option Nat := L.rconfN i L.E.length
def PLog.rcompact (L : PLog) (i : Int) (d : List Nat) : PLog := ⟨⟨i, (L.term i).1, (L.rconf i).1, (L.rconf i).2.1, (L.rconf i).2.2, true, d, none⟩, L.E.drop (i - L.S.ix).toNat, true, none⟩
theorem RComp_no (L : PLog) (hL : L.ok) (i : Int) (hi : I64 i) (dz : Bool) (d : List Nat) (dc : Option Nat) (hno : i ≤ L.S.ix ∨ L.last < i) : CallS Try.prog base 55 [.c (.ptr 0 0), .c (.p (.int .i64 i)), .c (.p (.tz dz 1 (byP d) dc))] L.h (.c (.p (.bs false))) L.h := by
  refine CallS.of noNG lRComp.2 rfl (M.start (M.go rfl ?_))
  refine M.dec rfl (fun h2 => ?_) (fun h2 => ?_)
  · refine M.go rfl ?_
    exact M.ret (M.go rfl (M.done (finQ.ret [(0, 0)] rfl rfl rfl (by first | exact Wk.rfl | exact Wk.uncap | exact Wk.nil | exact Wk.b1 rfl | exact Wk.t2 Wk.rfl (Wk.b1 rfl)) (by repeat' (first | exact True.intro | refine ⟨⟨_, _, _, rfl, rfl, rfl, WkO.rfl⟩, ?_⟩ | refine HeapOK.acc rfl rfl ?_ | refine HeapOK.es rfl rfl ?_)))))
  refine M.go rfl ?_
  refine M.use (by first | exact True.intro | exact rfl) (RLast_spec L hL) [(0, 0)] rfl rfl rfl (by repeat' (first | exact True.intro | refine ⟨⟨_, _, _, rfl, rfl, rfl, WkO.rfl⟩, ?_⟩ | refine HeapOK.acc rfl rfl ?_ | refine HeapOK.es rfl rfl ?_)) rfl rfl ?_
  refine M.go rfl ?_
  refine M.cond rfl (fun h3 => ?_) (fun h3 => absurd hno (by omega))
  refine M.go rfl ?_
  exact M.ret (M.go rfl (M.done (finQ.ret [(0, 0)] rfl rfl rfl (by first | exact Wk.rfl | exact Wk.uncap | exact Wk.nil | exact Wk.b1 rfl | exact Wk.t2 Wk.rfl (Wk.b1 rfl)) (by repeat' (first | exact True.intro | refine ⟨⟨_, _, _, rfl, rfl, rfl, WkO.rfl⟩, ?_⟩ | refine HeapOK.acc rfl rfl ?_ | refine HeapOK.es rfl rfl ?_)))))
theorem RComp_yes (L : PLog) (hL : L.ok) (i : Int) (hi : I64 i) (dz : Bool) (d : List Nat) (dc : Option Nat) (hd : okB d) (h1 : L.S.ix < i) (h3 : i ≤ L.last) : CallS Try.prog base 55 [.c (.ptr 0 0), .c (.p (.int .i64 i)), .c (.p (.tz dz 1 (byP d) dc))] L.h (.c (.p (.bs true))) (L.rcompact i d).h := by
  have hlen := hL.len
  have hix := hL.ix
  refine CallS.of noNG lRComp.2 rfl (M.start (M.go rfl ?_))
  refine M.dec rfl (fun h2 => absurd h2 (by omega)) (fun h2 => ?_)
  refine M.go rfl ?_
  refine M.use (by first | exact True.intro | exact rfl) (RLast_spec L hL) [(0, 0)] rfl rfl rfl (by repeat' (first | exact True.intro | refine ⟨⟨_, _, _, rfl, rfl, rfl, WkO.rfl⟩, ?_⟩ | refine HeapOK.acc rfl rfl ?_ | refine HeapOK.es rfl rfl ?_)) rfl rfl ?_
  refine M.go rfl ?_
  refine M.cond rfl (fun h4 => absurd h4 (by omega)) (fun h4 => ?_)
  refine M.go rfl ?_
  refine M.use (by first | exact True.intro | exact rfl) (RTerm_spec L hL i hi) [(0, 0)] rfl rfl rfl (by repeat' (first | exact True.intro | refine ⟨⟨_, _, _, rfl, rfl, rfl, WkO.rfl⟩, ?_⟩ | refine HeapOK.acc rfl rfl ?_ | refine HeapOK.es rfl rfl ?_)) rfl rfl ?_
  refine M.go rfl ?_
  refine M.use (by first | exact True.intro | exact rfl) (RConfAt_spec L hL i) [(0, 0)] rfl rfl rfl (by repeat' (first | exact True.intro | refine ⟨⟨_, _, _, rfl, rfl, rfl, WkO.rfl⟩, ?_⟩ | refine HeapOK.acc rfl rfl ?_ | refine HeapOK.es rfl rfl ?_)) rfl rfl ?_
  refine M.go rfl ?_
  obtain ⟨T, hT⟩ : ∃ T, T = L.E.drop (i - L.S.ix).toNat := ⟨_, rfl⟩
  have hTl : T.length ≤ 10000000000 := by rw [hT]; simp; omega
  have hw : IntKind.i64.wrap (i - L.S.ix) = i - L.S.ix := wr64 (by omega) (by have := hi.2; omega)
  have hle : (i - L.S.ix).toNat ≤ (entP L.E).length := by rw [entP_len]; unfold PLog.last at h3; omega
  refine M.midV [(0, .c (.ptr 0 0)), (1, .c (.p (.int .i64 i))), (2, .c (.p (.tz dz 1 (byP d) dc))), (7, .c (.p (.int .i64 (L.term i).1))), (9, rconfV (L.rconf i)), (10, .c (.p (.tz true 4 (entP T) none)))] ⟨[(0, some (.row L.row true))], 1⟩ ?_ ?_
  · refine M.regD (MD.go rfl ?_)
    rw [hw]
    refine MD.op trivial (SOp.sl rfl ⟨_, _, rfl, by omega, rfl⟩ rfl hle (Nat.le_refl _)) (MD.go rfl ?_)
    rw [drop_take, ← hT]
    cases T with
    | nil =>
      refine MD.op trivial (SOp.app0 rfl rfl .tz (.inr ⟨_, _, _, _, rfl⟩)) (MD.go rfl (MD.nil mixed (Fnl.nodup rfl) (M.done ⟨rfl, ?_⟩)))
      exact Sh.ren [(0, 0)] rfl (by repeat' (first | exact True.intro | refine ⟨⟨_, _, rfl, rfl, Wk.rfl⟩, ?_⟩ | refine ⟨⟨_, _, accV_ren rfl, rfl, Wk.rfl⟩, ?_⟩ | refine ⟨⟨_, _, accV_ren rfl, rfl, Wk.acc0⟩, ?_⟩ | refine ⟨⟨_, _, rfl, rfl, Wk.uncap⟩, ?_⟩ | refine ⟨⟨_, _, rfl, rfl, Wk.nil⟩, ?_⟩)) (by repeat' (first | exact True.intro | refine ⟨⟨_, _, _, rfl, rfl, rfl, WkO.rfl⟩, ?_⟩ | refine HeapOK.acc rfl rfl ?_ | refine HeapOK.es rfl rfl ?_))
    | cons t T =>
      refine MD.op trivial (SOp.appN rfl rfl .tz (by simp [entP]) (by rw [entP_len]; omega)) (MD.go rfl (MD.nil mixed (Fnl.nodup rfl) (M.done ⟨rfl, ?_⟩)))
      exact Sh.freezeN (i := 10) rfl rfl rfl (Sh.wk (i := 10) (v' := .c (.p (.tz true 4 (entP (t :: T)) none))) rfl (Wk.some (by simp [entP])) (Sh.ren [(0, 0)] rfl (by repeat' (first | exact True.intro | refine ⟨⟨_, _, rfl, rfl, Wk.rfl⟩, ?_⟩ | refine ⟨⟨_, _, accV_ren rfl, rfl, Wk.rfl⟩, ?_⟩ | refine ⟨⟨_, _, accV_ren rfl, rfl, Wk.acc0⟩, ?_⟩ | refine ⟨⟨_, _, rfl, rfl, Wk.uncap⟩, ?_⟩ | refine ⟨⟨_, _, rfl, rfl, Wk.nil⟩, ?_⟩)) (by repeat' (first | exact True.intro | refine ⟨⟨_, _, _, rfl, rfl, rfl, WkO.rfl⟩, ?_⟩ | refine HeapOK.acc rfl rfl ?_ | refine HeapOK.es rfl rfl ?_))))
  · refine M.go rfl ?_
    refine M.appNF trivial rfl rfl .tz (by rw [byP_len]; have := hd.1; omega) ?_
    refine M.go rfl ?_
    rw [show (L.rcompact i d).h = ⟨[(0, some (.row [.p (.int .i64 i), .p (.int .i64 (L.term i).1), .p (.tz (L.rconf i).1 1 (inP (L.rconf i).2.1) (L.rconf i).2.2), .p (.tz true 1 (byP d) none), .p (.tz true 4 (entP T) none)] true))], 1⟩ by rw [hT]; rfl]
    exact M.ret (M.go rfl (M.done (finQ.ret [(0, 0)] rfl rfl rfl (by first | exact Wk.rfl | exact Wk.uncap | exact Wk.nil | exact Wk.b1 rfl | exact Wk.t2 Wk.rfl (Wk.b1 rfl)) (by repeat' (first | exact True.intro | refine ⟨⟨_, _, _, rfl, rfl, rfl, WkO.rfl⟩, ?_⟩ | refine HeapOK.acc rfl rfl ?_ | refine HeapOK.es rfl rfl ?_)))))
/-! Reset. -/
noncomputable def lRReset : {F : LF // lowerF Try.prog 57 = some F} := ⟨_, rfl⟩
def PLog.rreset (L : PLog) (s : Snp) : PLog := if L.keeps s = true then ⟨s, L.E.drop (s.ix - L.S.ix).toNat, true, none⟩ else ⟨s, [], true, none⟩
theorem RReset_spec (L : PLog) (hL : L.ok) (s : Snp) (hs : s.ok) : CallS Try.prog base 57 [.c (.ptr 0 0), s.v] L.h (.tup []) (L.rreset s).h := by
  have hlen := hL.len
  have hix := hL.ix
  refine CallS.of noNG lRReset.2 rfl (M.start (M.go rfl ?_))
  refine M.use (by first | exact True.intro | exact rfl) (RTerm_spec L hL s.ix hs.ix) [(0, 0)] rfl rfl rfl (by repeat' (first | exact True.intro | refine ⟨⟨_, _, _, rfl, rfl, rfl, WkO.rfl⟩, ?_⟩ | refine HeapOK.acc rfl rfl ?_ | refine HeapOK.es rfl rfl ?_)) rfl rfl ?_
  refine M.go rfl ?_
  have no : L.keeps s = false → (L.rreset s).h = ⟨[(0, some (.row [.p (.int .i64 s.ix), .p (.int .i64 s.tm), .p (.tz s.cz 1 (inP s.cf) s.cc), .p (.tz s.dz 1 (byP s.d) s.dc), .p (.tz true 4 (entP []) none)] true))], 1⟩ := fun h => by rw [PLog.rreset, if_neg (by rw [h]; simp)]; rfl
  refine M.decC (s := 5) rfl (fun h1 => ?_) (fun h1 => ?_)
  · refine M.regD (MD.go rfl ?_)
    refine MD.dec rfl rfl rfl (fun h2 => ?_) (fun h2 => ?_)
    · refine MD.go rfl (MD.nil mixed (Fnl.nodup rfl) (M.go rfl ?_))
      refine M.cond rfl (fun h3 => ?_) (fun h3 => ?_)
      · refine M.go rfl ?_
        have h4 := PLog.term_true h1 h3
        obtain ⟨T, hT⟩ : ∃ T, T = L.E.drop (s.ix - L.S.ix).toNat := ⟨_, rfl⟩
        have hTl : T.length ≤ 10000000000 := by rw [hT]; simp; omega
        have hw : IntKind.i64.wrap (s.ix - L.S.ix) = s.ix - L.S.ix := wr64 (by omega) (by have := hs.ix.2; omega)
        have hle : (s.ix - L.S.ix).toNat ≤ (entP L.E).length := by rw [entP_len]; unfold PLog.last at h4; omega
        have hk : (L.rreset s).h = ⟨[(0, some (.row [.p (.int .i64 s.ix), .p (.int .i64 s.tm), .p (.tz s.cz 1 (inP s.cf) s.cc), .p (.tz s.dz 1 (byP s.d) s.dc), .p (.tz true 4 (entP T) none)] true))], 1⟩ := by rw [PLog.rreset, if_pos (by rw [PLog.keeps, h1, h2]; simp [h3]), hT]; rfl
        refine M.midV [(0, .c (.ptr 0 0)), (3, .c (.ptr 1 0)), (6, .c (.p (.tz true 4 (entP T) none)))] ⟨[(1, some (.row (s.cs.map XC.p) true)), (0, some (.row L.row true))], 2⟩ ?_ ?_
        · refine M.regD (MD.go rfl ?_)
          rw [hw]
          refine MD.op trivial (SOp.sl rfl ⟨_, _, rfl, by omega, rfl⟩ rfl hle (Nat.le_refl _)) (MD.go rfl ?_)
          rw [drop_take, ← hT]
          cases T with
          | nil =>
            refine MD.op trivial (SOp.app0 rfl rfl .tz (.inr ⟨_, _, _, _, rfl⟩)) (MD.go rfl (MD.nil mixed (Fnl.nodup rfl) (M.done ⟨rfl, ?_⟩)))
            exact Sh.ren [(0, 0), (1, 1)] rfl (by repeat' (first | exact True.intro | refine ⟨⟨_, _, rfl, rfl, Wk.rfl⟩, ?_⟩ | refine ⟨⟨_, _, accV_ren rfl, rfl, Wk.rfl⟩, ?_⟩ | refine ⟨⟨_, _, accV_ren rfl, rfl, Wk.acc0⟩, ?_⟩ | refine ⟨⟨_, _, rfl, rfl, Wk.uncap⟩, ?_⟩ | refine ⟨⟨_, _, rfl, rfl, Wk.nil⟩, ?_⟩)) (by repeat' (first | exact True.intro | refine ⟨⟨_, _, _, rfl, rfl, rfl, WkO.rfl⟩, ?_⟩ | refine HeapOK.acc rfl rfl ?_ | refine HeapOK.es rfl rfl ?_))
          | cons t T =>
            refine MD.op trivial (SOp.appN rfl rfl .tz (by simp [entP]) (by rw [entP_len]; omega)) (MD.go rfl (MD.nil mixed (Fnl.nodup rfl) (M.done ⟨rfl, ?_⟩)))
            exact Sh.freezeN (i := 6) rfl rfl rfl (Sh.wk (i := 6) (v' := .c (.p (.tz true 4 (entP (t :: T)) none))) rfl (Wk.some (by simp [entP])) (Sh.ren [(0, 0), (1, 1)] rfl (by repeat' (first | exact True.intro | refine ⟨⟨_, _, rfl, rfl, Wk.rfl⟩, ?_⟩ | refine ⟨⟨_, _, accV_ren rfl, rfl, Wk.rfl⟩, ?_⟩ | refine ⟨⟨_, _, accV_ren rfl, rfl, Wk.acc0⟩, ?_⟩ | refine ⟨⟨_, _, rfl, rfl, Wk.uncap⟩, ?_⟩ | refine ⟨⟨_, _, rfl, rfl, Wk.nil⟩, ?_⟩)) (by repeat' (first | exact True.intro | refine ⟨⟨_, _, _, rfl, rfl, rfl, WkO.rfl⟩, ?_⟩ | refine HeapOK.acc rfl rfl ?_ | refine HeapOK.es rfl rfl ?_))))
        · refine M.go rfl ?_
          rw [hk]
          exact M.done (finQ.normal [(0, 0)] rfl rfl rfl Wk.rfl (by repeat' (first | exact True.intro | refine ⟨⟨_, _, _, rfl, rfl, rfl, WkO.rfl⟩, ?_⟩ | refine HeapOK.acc rfl rfl ?_ | refine HeapOK.es rfl rfl ?_)))
      · refine M.go rfl ?_
        rw [no (by rw [PLog.keeps, h1]; simp; omega)]
        exact M.done (finQ.normal [(0, 0)] rfl rfl rfl Wk.rfl ⟨⟨_, _, _, rfl, rfl, rfl, WkO.row ⟨Wk.rfl, Wk.rfl, Wk.rfl, Wk.rfl, Wk.nil, trivial⟩⟩, trivial⟩)
    · refine MD.go rfl (MD.nil mixed (Fnl.nodup rfl) (M.go rfl ?_))
      rw [no (by rw [PLog.keeps, decide_eq_false h2]; simp)]
      exact M.done (finQ.normal [(0, 0)] rfl rfl rfl Wk.rfl ⟨⟨_, _, _, rfl, rfl, rfl, WkO.row ⟨Wk.rfl, Wk.rfl, Wk.rfl, Wk.rfl, Wk.nil, trivial⟩⟩, trivial⟩)
  · refine M.regD (MD.go rfl (MD.nil mixed (Fnl.nodup rfl) (M.go rfl ?_)))
    rw [no (by rw [PLog.keeps, h1]; simp)]
    exact M.done (finQ.normal [(0, 0)] rfl rfl rfl Wk.rfl ⟨⟨_, _, _, rfl, rfl, rfl, WkO.row ⟨Wk.rfl, Wk.rfl, Wk.rfl, Wk.rfl, Wk.nil, trivial⟩⟩, trivial⟩)
end Go.Proofs.Yteegdhfekemhmaa

namespace Go.Proofs.Yteegdhfekemhmaa
open Go.RowKit Sim Go Sym
set_option maxRecDepth 100000
set_option linter.unusedVariables false
set_option linter.unusedSimpArgs false
variable {base : Nat}
noncomputable def lCs : {F : LF // lowerF Try.prog 50 = some F} := ⟨_, rfl⟩
def Snp.cut (s : Snp) : Snp := if mayI s.cf = true then ⟨s.ix, s.tm, s.cz, s.cf, s.cc, s.dz, s.d.take 300, none⟩ else ⟨s.ix, s.tm, true, [], none, s.dz, s.d.take 300, none⟩
theorem byP_take (l : List Nat) (n : Nat) : (byP l).take n = byP (l.take n) := by simp [byP, List.map_take]
theorem CutSnap_spec (s : Snp) (hs : s.cf.length ≤ 100000000000000) : CallS Try.prog base 50 [s.v] ⟨[], 0⟩ s.cut.v ⟨[], 0⟩ := by
  refine CallS.of noNG lCs.2 rfl (M.start (M.go rfl ?_))
  refine M.use0 trivial (short_spec s.dz (byP s.d) s.dc 300 (by omega)) rfl rfl rfl ?_
  refine M.go rfl ?_
  rw [byP_take]
  refine M.use0 trivial (mbr_spec s.cz s.cc s.cf hs) rfl rfl rfl ?_
  refine M.go rfl ?_
  refine M.condB rfl (fun h => ?_) (fun h => ?_)
  · refine M.go rfl ?_
    rw [show s.cut = ⟨s.ix, s.tm, true, [], none, s.dz, s.d.take 300, none⟩ from if_neg (by simpa using h)]
    exact M.ret (M.go rfl (M.done (finQ.ret [] rfl rfl rfl (Wk.agg ⟨Wk.rfl, Wk.rfl, Wk.nil, Wk.rfl, trivial⟩) (by repeat' (first | exact True.intro | refine ⟨⟨_, _, _, rfl, rfl, rfl, WkO.rfl⟩, ?_⟩ | refine HeapOK.acc rfl rfl ?_ | refine HeapOK.es rfl rfl ?_)))))
  · refine M.go rfl ?_
    rw [show s.cut = ⟨s.ix, s.tm, s.cz, s.cf, s.cc, s.dz, s.d.take 300, none⟩ from if_pos (by simpa using h)]
    exact M.ret (M.go rfl (M.done (finQ.ret [] rfl rfl rfl (by first | exact Wk.rfl | exact Wk.uncap | exact Wk.nil | exact Wk.b1 rfl | exact Wk.t2 Wk.rfl (Wk.b1 rfl)) (by repeat' (first | exact True.intro | refine ⟨⟨_, _, _, rfl, rfl, rfl, WkO.rfl⟩, ?_⟩ | refine HeapOK.acc rfl rfl ?_ | refine HeapOK.es rfl rfl ?_)))))
noncomputable def lCe : {F : LF // lowerF Try.prog 51 = some F} := ⟨_, rfl⟩
def Ent.cut (e : Ent) : Ent := ⟨e.ix, e.tm, e.kd, e.z, e.d.take 60, none⟩
def cutEs (l : List Ent) (n : Nat) : List Ent := (l.take n).map Ent.cut
theorem ce_loop (z : Bool) (c : Option Nat) (l : List Ent) (n : Nat) (hl : l.length ≤ 100000000000000) (hn : n ≤ 1000) (Q : QX) (hq : Q (.exit 0) [(5, accV 0 4 (entP (cutEs l n)))] ⟨[(0, accO 4 (entP (cutEs l n)))], 1⟩) :
    ∀ (rest pre : List Ent), l = pre ++ rest → pre.length ≤ n → XH Try.prog base lCe.1.n 0 (lCe.1.c.lp 0) [(0, .c (.p (.tz z 4 (entP l) c))), (1, .c (.p (.int .i64 n))), (6, .c (.p (.int .i64 pre.length))), (5, accV 0 4 (entP (pre.map Ent.cut)))] ⟨[(0, accO 4 (entP (pre.map Ent.cut)))], 1⟩ Q := by
  intro rest
  induction rest with
  | nil =>
    intro pre hp hn2
    simp at hp
    subst hp
    rw [show cutEs l n = l.map Ent.cut by rw [cutEs, List.take_of_length_le hn2]] at hq
    refine M.round (M.go rfl ?_)
    refine M.dec rfl (fun hc => absurd hc (by rw [entP_len]; omega)) (fun hc => ?_)
    refine M.go rfl ?_
    refine M.ren [(0, 0)] ?_ trivial rfl (by repeat' (first | exact True.intro | refine ⟨⟨_, _, rfl, rfl, Wk.rfl⟩, ?_⟩ | refine ⟨⟨_, _, accV_ren rfl, rfl, Wk.rfl⟩, ?_⟩ | refine ⟨⟨_, _, accV_ren rfl, rfl, Wk.acc0⟩, ?_⟩ | refine ⟨⟨_, _, rfl, rfl, Wk.uncap⟩, ?_⟩ | refine ⟨⟨_, _, rfl, rfl, Wk.nil⟩, ?_⟩)) (by repeat' (first | exact True.intro | refine ⟨⟨_, _, _, rfl, rfl, rfl, WkO.rfl⟩, ?_⟩ | refine HeapOK.acc rfl rfl ?_ | refine HeapOK.es rfl rfl ?_)) (e' := [(5, accV 0 4 (entP (l.map Ent.cut)))]) (h' := ⟨[(0, accO 4 (entP (l.map Ent.cut)))], 1⟩)
    exact M.exit (M.go rfl (M.done hq))
  | cons e rest ih =>
    intro pre hp hn2
    have hlen : (entP l).length = pre.length + (rest.length + 1) := by rw [hp]; simp [entP]
    have hu : (entP l)[((pre.length : Int)).toNat]? = some e.pc := by rw [hp]; exact at_app _ _ _ _
    refine M.round (M.go rfl ?_)
    refine M.dec rfl (fun hc => ?_) (fun hc => absurd (by omega) hc)
    refine M.go rfl ?_
    refine M.cond rfl (fun hc => ?_) (fun hc => ?_)
    · refine M.go rfl ?_
      refine M.op trivial (SOp.ia rfl rfl (by omega) hu) ?_
      refine M.op trivial (SOp.ldne rfl hu rfl rfl rfl) ?_
      refine M.go rfl ?_
      refine M.use0 trivial (short_spec e.z (byP e.d) e.c 60 (by omega)) rfl rfl rfl ?_
      refine M.go rfl ?_
      rw [byP_take]
      have hla : (entP (pre.map Ent.cut)).length = pre.length := by simp [entP]
      refine M.acc trivial rfl rfl rfl (.own rfl rfl) (by simp) (by rw [hla]; simp; omega) ?_
      refine M.go rfl ?_
      have hw2 : IntKind.i64.wrap ((pre.length : Int) + 1) = ((pre ++ [e]).length : Int) := by rw [wr64 (by omega) (by omega)]; simp
      rw [hw2]
      have ih' := ih (pre ++ [e]) (by rw [hp]; simp) (by simp; omega)
      rw [show entP ((pre ++ [e]).map Ent.cut) = entP (pre.map Ent.cut) ++ [e.cut.pc] by simp [entP]] at ih'
      exact M.again (XH.ren [(0, 3)] ih' rfl (by repeat' (first | exact True.intro | refine ⟨⟨_, _, rfl, rfl, Wk.rfl⟩, ?_⟩ | refine ⟨⟨_, _, accV_ren rfl, rfl, Wk.rfl⟩, ?_⟩ | refine ⟨⟨_, _, accV_ren rfl, rfl, Wk.acc0⟩, ?_⟩ | refine ⟨⟨_, _, rfl, rfl, Wk.uncap⟩, ?_⟩ | refine ⟨⟨_, _, rfl, rfl, Wk.nil⟩, ?_⟩)) (by repeat' (first | exact True.intro | refine ⟨⟨_, _, _, rfl, rfl, rfl, WkO.rfl⟩, ?_⟩ | refine HeapOK.acc rfl rfl ?_ | refine HeapOK.es rfl rfl ?_)))
    · have : pre.length = n := by omega
      rw [show cutEs l n = pre.map Ent.cut by rw [cutEs, hp, ← this]; simp] at hq
      refine M.go rfl ?_
      refine M.ren [(0, 0)] ?_ trivial rfl (by repeat' (first | exact True.intro | refine ⟨⟨_, _, rfl, rfl, Wk.rfl⟩, ?_⟩ | refine ⟨⟨_, _, accV_ren rfl, rfl, Wk.rfl⟩, ?_⟩ | refine ⟨⟨_, _, accV_ren rfl, rfl, Wk.acc0⟩, ?_⟩ | refine ⟨⟨_, _, rfl, rfl, Wk.uncap⟩, ?_⟩ | refine ⟨⟨_, _, rfl, rfl, Wk.nil⟩, ?_⟩)) (by repeat' (first | exact True.intro | refine ⟨⟨_, _, _, rfl, rfl, rfl, WkO.rfl⟩, ?_⟩ | refine HeapOK.acc rfl rfl ?_ | refine HeapOK.es rfl rfl ?_)) (e' := [(5, accV 0 4 (entP (pre.map Ent.cut)))]) (h' := ⟨[(0, accO 4 (entP (pre.map Ent.cut)))], 1⟩)
      exact M.exit (M.go rfl (M.done hq))
theorem CutEntries_spec (z : Bool) (c : Option Nat) (l : List Ent) (n : Nat) (hl : l.length ≤ 100000000000000) (hn : n ≤ 1000) : CallS Try.prog base 51 [.c (.p (.tz z 4 (entP l) c)), .c (.p (.int .i64 n))] ⟨[], 0⟩ (.c (.p (.tz true 4 (entP (cutEs l n)) none))) ⟨[], 0⟩ := by
  refine CallS.of noNG lCe.2 rfl (M.start (M.go rfl ?_))
  refine M.loop (XH.ren [(0, 0)] (ce_loop z c l n hl hn _ ?_ l [] rfl (by simp)) rfl (by repeat' (first | exact True.intro | refine ⟨⟨_, _, rfl, rfl, Wk.rfl⟩, ?_⟩ | refine ⟨⟨_, _, accV_ren rfl, rfl, Wk.rfl⟩, ?_⟩ | refine ⟨⟨_, _, accV_ren rfl, rfl, Wk.acc0⟩, ?_⟩ | refine ⟨⟨_, _, rfl, rfl, Wk.uncap⟩, ?_⟩ | refine ⟨⟨_, _, rfl, rfl, Wk.nil⟩, ?_⟩)) (by repeat' (first | exact True.intro | refine ⟨⟨_, _, _, rfl, rfl, rfl, WkO.rfl⟩, ?_⟩ | refine HeapOK.acc rfl rfl ?_ | refine HeapOK.es rfl rfl ?_)))
  refine M.q (M.go rfl ?_)
  refine M.accF (i := 4) rfl rfl ?_
  exact M.ret (M.go rfl (M.done (finQ.ret [] rfl rfl rfl (by first | exact Wk.rfl | exact Wk.uncap | exact Wk.nil | exact Wk.b1 rfl | exact Wk.t2 Wk.rfl (Wk.b1 rfl)) (by repeat' (first | exact True.intro | refine ⟨⟨_, _, _, rfl, rfl, rfl, WkO.rfl⟩, ?_⟩ | refine HeapOK.acc rfl rfl ?_ | refine HeapOK.es rfl rfl ?_)))))
/-! Two logs that hold the same. -/
def Ent.key (e : Ent) : Int × Int × Int × List Nat := (e.ix, e.tm, e.kd, e.d)
theorem key_iff {e f : Ent} : e.key = f.key ↔ e.ix = f.ix ∧ e.tm = f.tm ∧ e.kd = f.kd ∧ e.d = f.d := by simp [Ent.key]
theorem key_own (e : Ent) : e.own.key = e.key := rfl
theorem keys_own (l : List Ent) : (l.map Ent.own).map Ent.key = l.map Ent.key := by simp [Function.comp_def, key_own]
theorem eqv_of {e f : Ent} (h : e.key = f.key) : e.eqv f = true := by
  obtain ⟨h1, h2, h3, h4⟩ := key_iff.1 h
  simp [Ent.eqv, h1, h2, h3, h4, eqL_iff]
theorem eqvL_of : ∀ {l r : List Ent}, l.map Ent.key = r.map Ent.key → eqvL l r = true
  | [], [], _ => rfl
  | [], _ :: _, h => by simp at h
  | _ :: _, [], h => by simp at h
  | e :: l, f :: r, h => by
    simp only [List.map_cons, List.cons.injEq] at h
    simp [eqvL, eqv_of h.1, eqvL_of h.2]
theorem memB_inc : ∀ (l : List Nat) (p : Nat), memB p l = incB p (nI l)
  | [], _ => rfl
  | b :: l, p => by
    rw [nI, List.map_cons, memB, incB, memB_inc l b]
    simp only [nI, Int.ofNat_lt, show ((b : Int) ≤ 7) ↔ b ≤ 7 by omega]
theorem natI_mem (l : List Nat) : natI (memL l) = selI (nI l) := by
  rw [memL, selI, mayI, memB_inc]
  cases h : incB 0 (nI l) with
  | false => simp [natI, show incB ((0 : Nat) : Int) (nI l) = false from h]
  | true => cases l <;> simp [natI, nI, show incB ((0 : Nat) : Int) _ = true from h]
theorem memL_emp (l : List Nat) : (memL l).isEmpty = (selI (nI l)).isEmpty := by rw [← natI_mem, natI]; simp
theorem may_good : ∀ (l : List Ent) (i t : Int), -1 ≤ i → i + l.length ≤ 9000000000000000000 → mayF i t l = goodF i t l
  | [], _, _, _, _ => rfl
  | e :: l, i, t, h0, h => by
    simp only [List.length_cons] at h
    rw [mayF, goodF, wr64 (by omega) (by omega), decide_eq_false (show ¬ i = 9223372036854775807 by omega)]
    by_cases he : e.ix = i + 1
    · rw [entB, entG, memL_emp, may_good l (i + 1) e.tm (by omega) (by omega)]; rfl
    · simp [entB, entG, he, wr64 (show -9223372036854775808 ≤ i + 1 by omega) (by omega)]
theorem good_key : ∀ {l r : List Ent} {i t : Int}, l.map Ent.key = r.map Ent.key → goodF i t l = goodF i t r
  | [], [], _, _, _ => rfl
  | [], _ :: _, _, _, h => by simp at h
  | _ :: _, [], _, _, h => by simp at h
  | e :: l, f :: r, i, t, h => by
    simp only [List.map_cons, List.cons.injEq] at h
    obtain ⟨h1, h2, h3, h4⟩ := key_iff.1 h.1
    rw [goodF, goodF, entG, entG, h1, h2, h3, h4, good_key h.2]
theorem good_seq : ∀ {l : List Ent} {i t : Int}, -1 ≤ i → i + l.length ≤ 9000000000000000000 → goodF i t l = true → ∀ j, j < l.length → (l.getD j default).ix = i + j + 1
  | [], _, _, _, _, _, j, hj => by simp at hj
  | e :: l, i, t, h0, h, hg, j, hj => by
    simp only [List.length_cons] at h hj
    rw [goodF, Bool.and_eq_true, wr64 (by omega) (by omega)] at hg
    have he : e.ix = i + 1 := by
      have := hg.1
      simp [entG, wr64 (show -9223372036854775808 ≤ i + 1 by omega) (by omega)] at this
      have h2 := this.1
      first | exact h2 | omega
    cases j with
    | zero => simpa using he
    | succ j =>
      have := good_seq (by omega) (by omega) hg.2 j (by omega)
      simp only [List.getD_cons_succ]
      rw [this]; omega
structure Rel (B : Nat) (L R : PLog) : Prop where
  hL : L.ok
  hR : R.ok
  ix : L.S.ix = R.S.ix
  tm : L.S.tm = R.S.tm
  cf : L.S.cf = R.S.cf
  d : L.S.d = R.S.d
  E : L.E.map Ent.key = R.E.map Ent.key
  seq : ∀ j : Nat, j < L.E.length → (L.E.getD j default).ix = L.S.ix + j + 1
  len : L.E.length ≤ B
  top : L.last ≤ 1125899906842624 + B
variable {B : Nat} {L R : PLog}
theorem Rel.lenE (h : Rel B L R) : R.E.length = L.E.length := by have := congrArg List.length h.E; simpa using this.symm
theorem Rel.lastE (h : Rel B L R) : R.last = L.last := by rw [PLog.last, PLog.last, h.lenE, h.ix]
theorem Rel.at_ (h : Rel B L R) (j : Nat) (hj : j < L.E.length) : (L.E.getD j default).key = (R.E.getD j default).key := by
  have h1 : (L.E.map Ent.key)[j]? = (R.E.map Ent.key)[j]? := by rw [h.E]
  have hj' : j < R.E.length := by rw [h.lenE]; exact hj
  simpa [List.getD, hj, hj'] using h1
theorem Rel.at' (h : Rel B L R) (i : Int) (h1 : L.S.ix < i) (h2 : i ≤ L.last) : (L.at' i).key = (R.at' i).key := by
  rw [PLog.at', PLog.at', ← h.ix]
  exact h.at_ _ (by unfold PLog.last at h2; omega)
theorem Rel.term (h : Rel B L R) (i : Int) : L.term i = R.term i := by
  rw [PLog.term, PLog.term, h.lastE, ← h.ix, ← h.tm]
  split
  · rfl
  · split
    · rfl
    · rw [(key_iff.1 (h.at' i (by omega) (by omega))).2.1]
theorem Rel.keeps (h : Rel B L R) (s : Snp) : L.keeps s = R.keeps s := by rw [PLog.keeps, PLog.keeps, h.term, h.ix]
theorem Rel.confN (h : Rel B L R) : ∀ (m k : Nat), k ≤ m → m ≤ L.E.length → (L.confN k).2 = (R.rconfN (L.S.ix + k) m).2.1
  | 0, k, hk, hm => by
    obtain rfl : k = 0 := by omega
    rw [PLog.confN, PLog.rconfN]; exact h.cf
  | m + 1, k, hk, hm => by
    obtain ⟨e1, e2, e3, e4⟩ := key_iff.1 (h.at_ m (by omega))
    have hs := h.seq m (by omega)
    rw [PLog.rconfN]
    by_cases hkm : k = m + 1
    · subst hkm
      rw [PLog.confN]
      by_cases h3 : (L.E.getD m default).kd = 3
      · rw [if_pos h3, if_pos ⟨e3 ▸ h3, by rw [← e1, hs]; push_cast; omega⟩, ← e4]
        exact natI_mem _
      · rw [if_neg h3, if_neg (fun x => h3 (e3 ▸ x.1))]
        have := Rel.confN h m m (Nat.le_refl _) (by omega)
        rw [this]
        have key : ∀ n, n ≤ m → R.rconfN (L.S.ix + (m : Int)) n = R.rconfN (L.S.ix + ((m + 1 : Nat) : Int)) n := by
          intro n
          induction n with
          | zero => intro _; rfl
          | succ n ih =>
            intro hn
            have g1 := key_iff.1 (h.at_ n (by omega))
            have g2 := h.seq n (by omega)
            rw [PLog.rconfN, PLog.rconfN, ih (by omega), ← g1.1, g2]
            have : (L.S.ix + (n : Int) + 1 ≤ L.S.ix + (m : Int)) ↔ (L.S.ix + (n : Int) + 1 ≤ L.S.ix + ((m + 1 : Nat) : Int)) := by omega
            simp only [this]
        rw [key m (Nat.le_refl _)]
    · rw [if_neg (fun x => by have := x.2; rw [← e1, hs] at this; omega)]
      exact Rel.confN h m k (by omega) (by omega)
theorem Rel.conf (h : Rel B L R) (i : Int) : (L.confAt i).2 = (R.rconf i).2.1 := by
  rw [PLog.confAt, PLog.rconf, h.lenE]
  by_cases h1 : i ≤ L.last
  · by_cases h2 : L.S.ix ≤ i
    · have := h.confN L.E.length (i - L.S.ix).toNat (by unfold PLog.last at h1; omega) (Nat.le_refl _)
      rw [Int.min_eq_left h1, this]
      congr 3
      omega
    · have h0 : (min i L.last - L.S.ix).toNat = 0 := by omega
      rw [h0]
      have key : ∀ n, n ≤ L.E.length → (R.rconfN i n).2.1 = R.S.cf := by
        intro n
        induction n with
        | zero => intro _; rfl
        | succ n ih =>
          intro hn
          have g1 := key_iff.1 (h.at_ n (by omega))
          have g2 := h.seq n (by omega)
          rw [PLog.rconfN, if_neg (fun x => by have := x.2; rw [← g1.1, g2] at this; omega)]
          exact ih (by omega)
      rw [key _ (Nat.le_refl _)]; exact h.cf
  · have h0 : (min i L.last - L.S.ix).toNat = L.E.length := by unfold PLog.last at h1 ⊢; omega
    rw [h0, h.confN L.E.length L.E.length (Nat.le_refl _) (Nat.le_refl _)]
    have key : ∀ n, n ≤ L.E.length → R.rconfN (L.S.ix + (L.E.length : Int)) n = R.rconfN i n := by
      intro n
      induction n with
      | zero => intro _; rfl
      | succ n ih =>
        intro hn
        have g1 := key_iff.1 (h.at_ n (by omega))
        have g2 := h.seq n (by omega)
        unfold PLog.last at h1
        rw [PLog.rconfN, PLog.rconfN, ih (by omega), ← g1.1, g2]
        have : (L.S.ix + (n : Int) + 1 ≤ L.S.ix + (L.E.length : Int)) ↔ (L.S.ix + (n : Int) + 1 ≤ i) := by omega
        simp only [this]
    rw [key _ (Nat.le_refl _)]
theorem Rel.slice (h : Rel B L R) (f n : Int) : (L.slice f n).map Ent.key = (R.rslice f n).map Ent.key := by
  rw [PLog.slice, PLog.rslice, h.lastE, ← h.ix]
  split
  · rfl
  · rw [keys_own, List.map_take, List.map_take, List.map_drop, List.map_drop, h.E]
end Go.Proofs.Yteegdhfekemhmaa

namespace Go.Proofs.Yteegdhfekemhmaa
open Go.RowKit Sim Go Sym
set_option maxRecDepth 100000
set_option linter.unusedVariables false
set_option linter.unusedSimpArgs false
variable {base : Nat} {B : Nat} {L R : PLog}
def H2 (L R : PLog) : HS := ⟨[(0, some (.row L.row true)), (1, some (.row R.row true))], 2⟩
noncomputable def lSame : {F : LF // lowerF Try.prog 53 = some F} := ⟨_, rfl⟩
theorem Rel.snap (h : Rel B L R) : L.S.own.eqv R.S = true := by simp [Snp.eqv, Snp.own, h.ix, h.tm, h.cf, h.d, eqL_iff]
theorem selI_len (l : List Int) : (selI l).length ≤ 7 := by
  unfold selI mayI
  split
  · rename_i h
    have := incB_len l 0 (by decide) (by simpa using (Bool.and_eq_true _ _ ▸ h).1)
    omega
  · simp
theorem confAt_len (hL : L.ok) (i : Int) : (L.confAt i).2.length ≤ 100000000000 := by
  rw [PLog.confAt]
  generalize (min i L.last - L.S.ix).toNat = n
  induction n with
  | zero => exact hL.S.cf.1
  | succ n ih =>
    rw [PLog.confN]
    split
    · rw [natI_mem]; have := selI_len (nI (L.E.getD n default).d); simp only; omega
    · exact ih
theorem Rel.get2 (h : Rel B L R) (i k : Int) (hi : i = R.S.ix + k) : (L.get i).2 = (decide (1 ≤ k) && decide (k ≤ R.E.length)) := by
  have := h.lenE
  have h2 := h.ix
  rw [PLog.get]
  unfold PLog.last
  split
  · rename_i h1
    have : ¬ (1 ≤ k ∧ k ≤ (R.E.length : Int)) := by omega
    simp only [← decide_eq_false this, Bool.decide_and]
  · rename_i h1
    have : (1 ≤ k ∧ k ≤ (R.E.length : Int)) := by omega
    simp only [← decide_eq_true this, Bool.decide_and]
theorem Rel.get1 (h : Rel B L R) (i k : Int) (hi : i = R.S.ix + k) (h1 : 1 ≤ k) (h2 : k ≤ R.E.length) : (L.get i).1 = (L.at' i).own ∧ (L.at' i).own.key = (R.at' i).key ∧ (entP R.E)[(k - 1).toNat]? = some (R.at' i).pc ∧ okB (L.at' i).own.d ∧ okB (R.at' i).d := by
  have e1 := h.lenE
  have e2 := h.ix
  have e3 := h.lastE
  have hl : i ≤ L.last := by unfold PLog.last; omega
  obtain ⟨j, g1, g2, g3, g4⟩ := PLog.at_get (L := L) (i := i) (by omega) hl
  obtain ⟨j', k1, k2, k3, k4⟩ := PLog.at_get (L := R) (i := i) (by omega) (by omega)
  refine ⟨by rw [PLog.get, if_neg (by omega)], h.at' i (by omega) hl, ?_, (h.hL.at_ g3).d, (h.hR.at_ k3).d⟩
  rw [← k4]; congr 2; omega
theorem slice_ok (hL : L.ok) (f n : Int) : (∀ e ∈ L.slice f n, e.ok) ∧ (L.slice f n).length ≤ 100000000000 := by
  have := hL.len
  rw [PLog.slice]
  split
  · simp
  · refine ⟨fun e he => ?_, by simp; omega⟩
    obtain ⟨x, hx, rfl⟩ := List.mem_map.1 he
    have := hL.E x (List.mem_of_mem_drop (List.mem_of_mem_take hx))
    exact ⟨this.ix, this.tm, this.kd, this.d⟩
theorem rslice_ok (hL : L.ok) (f n : Int) : (∀ e ∈ L.rslice f n, e.ok) := by
  rw [PLog.rslice]
  split
  · simp
  · exact fun e he => hL.E e (List.mem_of_mem_drop (List.mem_of_mem_take he))
theorem same_loop (h : Rel B L R) (hB : B ≤ 1000) (Q : QX) (hq : Q (.exit 0) [(0, .c (.ptr 0 0)), (1, .c (.ptr 1 0))] (H2 L R)) :
    ∀ (rem : Nat) (k : Int), -1 ≤ k → k + rem = R.E.length + 2 → XH Try.prog base lSame.1.n 2 (lSame.1.c.lp 0) [(0, .c (.ptr 0 0)), (1, .c (.ptr 1 0)), (5, .c (.p (.int .i64 k)))] (H2 L R) Q := by
  have hlen := h.hR.len
  have hlB := h.len
  have htop := h.top
  have hlE := h.lenE
  have hixE := h.ix
  have hix := h.hL.ix
  have hwl : IntKind.i64.wrap ((R.E.length : Int) + 1) = R.E.length + 1 := wr64 (by omega) (by omega)
  intro rem
  induction rem with
  | zero =>
    intro k h0 hk
    refine M.round (M.go rfl ?_)
    rw [entP_len, hwl]
    refine M.cond rfl (fun hc => absurd hc (by omega)) (fun hc => ?_)
    refine M.ren [(0, 0), (1, 1)] ?_ trivial rfl (by repeat' (first | exact True.intro | refine ⟨⟨_, _, rfl, rfl, Wk.rfl⟩, ?_⟩ | refine ⟨⟨_, _, accV_ren rfl, rfl, Wk.rfl⟩, ?_⟩ | refine ⟨⟨_, _, accV_ren rfl, rfl, Wk.acc0⟩, ?_⟩ | refine ⟨⟨_, _, rfl, rfl, Wk.uncap⟩, ?_⟩ | refine ⟨⟨_, _, rfl, rfl, Wk.nil⟩, ?_⟩)) (by repeat' (first | exact True.intro | refine ⟨⟨_, _, _, rfl, rfl, rfl, WkO.rfl⟩, ?_⟩ | refine HeapOK.acc rfl rfl ?_ | refine HeapOK.es rfl rfl ?_)) (e' := [(0, .c (.ptr 0 0)), (1, .c (.ptr 1 0))]) (h' := H2 L R)
    exact M.exit (M.go rfl (M.done hq))
  | succ rem ih =>
    intro k h0 hk
    have ih' := ih (k + 1) (by omega) (by omega)
    have hwk : IntKind.i64.wrap (k + 1) = k + 1 := wr64 (by omega) (by omega)
    refine M.round (M.go rfl ?_)
    rw [entP_len, hwl]
    refine M.cond rfl (fun hc => ?_) (fun hc => absurd (by omega) hc)
    unfold PLog.last at htop
    have hwi : IntKind.i64.wrap (R.S.ix + k) = R.S.ix + k := wr64 (by omega) (by omega)
    obtain ⟨i, hi⟩ : ∃ i, i = R.S.ix + k := ⟨_, rfl⟩
    have hI : I64 i := ⟨by omega, by omega⟩
    refine M.go rfl ?_
    rw [hwi, ← hi]
    refine M.use (by first | exact True.intro | exact rfl) (Term_spec L h.hL i hI) [(0, 0)] rfl rfl rfl (by repeat' (first | exact True.intro | refine ⟨⟨_, _, _, rfl, rfl, rfl, WkO.rfl⟩, ?_⟩ | refine HeapOK.acc rfl rfl ?_ | refine HeapOK.es rfl rfl ?_)) rfl rfl ?_
    rw [h.term i]
    refine M.go rfl ?_
    refine M.use (by first | exact True.intro | exact rfl) (RTerm_spec R h.hR i hI) [(0, 1)] rfl rfl rfl (by repeat' (first | exact True.intro | refine ⟨⟨_, _, _, rfl, rfl, rfl, WkO.rfl⟩, ?_⟩ | refine HeapOK.acc rfl rfl ?_ | refine HeapOK.es rfl rfl ?_)) rfl rfl ?_
    refine M.go rfl ?_
    refine M.use (by first | exact True.intro | exact rfl) (Get_spec L h.hL i hI) [(0, 0)] rfl rfl rfl (by repeat' (first | exact True.intro | refine ⟨⟨_, _, _, rfl, rfl, rfl, WkO.rfl⟩, ?_⟩ | refine HeapOK.acc rfl rfl ?_ | refine HeapOK.es rfl rfl ?_)) rfl rfl ?_
    rw [h.get2 i k hi]
    refine M.go rfl ?_
    refine M.regD (MD.go rfl ?_)
    refine MD.decN rfl rfl rfl (fun h => absurd rfl h) (fun _ => ?_)
    refine MD.go rfl ?_
    refine MD.decB rfl rfl rfl (fun h => by simp at h) (fun _ => ?_)
    refine MD.go rfl ?_
    by_cases h1 : 1 ≤ k
    · by_cases h2 : k ≤ (R.E.length : Int)
      · obtain ⟨g1, g2, g3, g4, g5⟩ := h.get1 i k hi h1 h2
        have hwk1 : IntKind.i64.wrap (k - 1) = k - 1 := wr64 (by omega) (by omega)
        refine MD.dec rfl rfl rfl (fun _ => ?_) (fun hn => absurd h1 hn)
        refine MD.go rfl ?_
        rw [entP_len]
        refine MD.decB rfl rfl rfl (fun h => by simp [h1, h2] at h) (fun _ => ?_)
        refine MD.go rfl ?_
        refine MD.decB rfl rfl rfl (fun _ => ?_) (fun h => by simp [h1, h2] at h)
        refine MD.go rfl ?_
        rw [hwk1]
        refine MD.op rfl (SOp.ia rfl rfl (by omega) g3) (MD.go rfl ?_)
        refine MD.op rfl (SOp.ldne rfl g3 rfl rfl rfl) (MD.go rfl ?_)
        rw [g1]
        refine MD.use0 rfl (EqEntry_spec (L.at' i).own (R.at' i) g4 g5) rfl rfl rfl ?_
        rw [eqv_of g2]
        refine MD.go rfl ?_
        refine MD.decB rfl rfl rfl (fun h => by simp at h) (fun _ => ?_)
        refine MD.go rfl ?_
        refine MD.use rfl (ConfAt_spec L h.hL i hI) [(0, 0)] rfl rfl rfl (by repeat' (first | exact True.intro | refine ⟨⟨_, _, _, rfl, rfl, rfl, WkO.rfl⟩, ?_⟩ | refine HeapOK.acc rfl rfl ?_ | refine HeapOK.es rfl rfl ?_)) rfl rfl ?_
        refine MD.go rfl ?_
        refine MD.use rfl (RConfAt_spec R h.hR i) [(0, 1)] rfl rfl rfl (by repeat' (first | exact True.intro | refine ⟨⟨_, _, _, rfl, rfl, rfl, WkO.rfl⟩, ?_⟩ | refine HeapOK.acc rfl rfl ?_ | refine HeapOK.es rfl rfl ?_)) rfl rfl ?_
        refine MD.go rfl ?_
        refine MD.use0 rfl (EqInts_spec (L.confAt i).1 (R.rconf i).1 none (R.rconf i).2.2 (L.confAt i).2 (R.rconf i).2.1 (confAt_len h.hL i)) rfl rfl rfl ?_
        refine MD.go rfl ?_
        refine MD.decN rfl rfl rfl (fun hn => absurd (h.conf i) hn) (fun _ => ?_)
        refine MD.go rfl ?_
        refine MD.use rfl (Slice_spec L h.hL i 3 hI) [(0, 0)] rfl rfl rfl (by repeat' (first | exact True.intro | refine ⟨⟨_, _, _, rfl, rfl, rfl, WkO.rfl⟩, ?_⟩ | refine HeapOK.acc rfl rfl ?_ | refine HeapOK.es rfl rfl ?_)) rfl rfl ?_
        refine MD.go rfl ?_
        refine MD.use rfl (RSlice_spec R h.hR i 3 hI) [(0, 1)] rfl rfl rfl (by repeat' (first | exact True.intro | refine ⟨⟨_, _, _, rfl, rfl, rfl, WkO.rfl⟩, ?_⟩ | refine HeapOK.acc rfl rfl ?_ | refine HeapOK.es rfl rfl ?_)) rfl rfl ?_
        refine MD.go rfl ?_
        refine MD.use0 rfl (EqEntries_spec true true none none (L.slice i 3) (R.rslice i 3) (slice_ok h.hL i 3).2 (slice_ok h.hL i 3).1 (rslice_ok h.hR i 3)) rfl rfl rfl ?_
        rw [eqvL_of (h.slice i 3)]
        refine MD.go rfl (MD.nil mixed (Fnl.nodup rfl) (M.go rfl ?_))
        refine M.condB rfl (fun hn => by simp at hn) (fun _ => ?_)
        refine M.go rfl ?_
        rw [hwk]
        exact M.again (XH.ren [(0, 0), (1, 1)] ih' rfl (by repeat' (first | exact True.intro | refine ⟨⟨_, _, rfl, rfl, Wk.rfl⟩, ?_⟩ | refine ⟨⟨_, _, accV_ren rfl, rfl, Wk.rfl⟩, ?_⟩ | refine ⟨⟨_, _, accV_ren rfl, rfl, Wk.acc0⟩, ?_⟩ | refine ⟨⟨_, _, rfl, rfl, Wk.uncap⟩, ?_⟩ | refine ⟨⟨_, _, rfl, rfl, Wk.nil⟩, ?_⟩)) (by repeat' (first | exact True.intro | refine ⟨⟨_, _, _, rfl, rfl, rfl, WkO.rfl⟩, ?_⟩ | refine HeapOK.acc rfl rfl ?_ | refine HeapOK.es rfl rfl ?_)))
      · refine MD.dec rfl rfl rfl (fun _ => ?_) (fun hn => absurd h1 hn)
        refine MD.go rfl ?_
        rw [entP_len]
        refine MD.decB rfl rfl rfl (fun h => by simp [h1, h2] at h) (fun _ => ?_)
        refine MD.go rfl ?_
        refine MD.decB rfl rfl rfl (fun h => by simp [h1, h2] at h) (fun _ => ?_)
        refine MD.go rfl ?_
        refine MD.use rfl (ConfAt_spec L h.hL i hI) [(0, 0)] rfl rfl rfl (by repeat' (first | exact True.intro | refine ⟨⟨_, _, _, rfl, rfl, rfl, WkO.rfl⟩, ?_⟩ | refine HeapOK.acc rfl rfl ?_ | refine HeapOK.es rfl rfl ?_)) rfl rfl ?_
        refine MD.go rfl ?_
        refine MD.use rfl (RConfAt_spec R h.hR i) [(0, 1)] rfl rfl rfl (by repeat' (first | exact True.intro | refine ⟨⟨_, _, _, rfl, rfl, rfl, WkO.rfl⟩, ?_⟩ | refine HeapOK.acc rfl rfl ?_ | refine HeapOK.es rfl rfl ?_)) rfl rfl ?_
        refine MD.go rfl ?_
        refine MD.use0 rfl (EqInts_spec (L.confAt i).1 (R.rconf i).1 none (R.rconf i).2.2 (L.confAt i).2 (R.rconf i).2.1 (confAt_len h.hL i)) rfl rfl rfl ?_
        refine MD.go rfl ?_
        refine MD.decN rfl rfl rfl (fun hn => absurd (h.conf i) hn) (fun _ => ?_)
        refine MD.go rfl ?_
        refine MD.use rfl (Slice_spec L h.hL i 3 hI) [(0, 0)] rfl rfl rfl (by repeat' (first | exact True.intro | refine ⟨⟨_, _, _, rfl, rfl, rfl, WkO.rfl⟩, ?_⟩ | refine HeapOK.acc rfl rfl ?_ | refine HeapOK.es rfl rfl ?_)) rfl rfl ?_
        refine MD.go rfl ?_
        refine MD.use rfl (RSlice_spec R h.hR i 3 hI) [(0, 1)] rfl rfl rfl (by repeat' (first | exact True.intro | refine ⟨⟨_, _, _, rfl, rfl, rfl, WkO.rfl⟩, ?_⟩ | refine HeapOK.acc rfl rfl ?_ | refine HeapOK.es rfl rfl ?_)) rfl rfl ?_
        refine MD.go rfl ?_
        refine MD.use0 rfl (EqEntries_spec true true none none (L.slice i 3) (R.rslice i 3) (slice_ok h.hL i 3).2 (slice_ok h.hL i 3).1 (rslice_ok h.hR i 3)) rfl rfl rfl ?_
        rw [eqvL_of (h.slice i 3)]
        refine MD.go rfl (MD.nil mixed (Fnl.nodup rfl) (M.go rfl ?_))
        refine M.condB rfl (fun hn => by simp at hn) (fun _ => ?_)
        refine M.go rfl ?_
        rw [hwk]
        exact M.again (XH.ren [(0, 0), (1, 1)] ih' rfl (by repeat' (first | exact True.intro | refine ⟨⟨_, _, rfl, rfl, Wk.rfl⟩, ?_⟩ | refine ⟨⟨_, _, accV_ren rfl, rfl, Wk.rfl⟩, ?_⟩ | refine ⟨⟨_, _, accV_ren rfl, rfl, Wk.acc0⟩, ?_⟩ | refine ⟨⟨_, _, rfl, rfl, Wk.uncap⟩, ?_⟩ | refine ⟨⟨_, _, rfl, rfl, Wk.nil⟩, ?_⟩)) (by repeat' (first | exact True.intro | refine ⟨⟨_, _, _, rfl, rfl, rfl, WkO.rfl⟩, ?_⟩ | refine HeapOK.acc rfl rfl ?_ | refine HeapOK.es rfl rfl ?_)))
    · refine MD.dec rfl rfl rfl (fun hn => absurd hn h1) (fun _ => ?_)
      refine MD.go rfl ?_
      refine MD.decB rfl rfl rfl (fun h => by simp [h1] at h) (fun _ => ?_)
      refine MD.go rfl ?_
      refine MD.decB rfl rfl rfl (fun h => by simp [h1] at h) (fun _ => ?_)
      refine MD.go rfl ?_
      refine MD.use rfl (ConfAt_spec L h.hL i hI) [(0, 0)] rfl rfl rfl (by repeat' (first | exact True.intro | refine ⟨⟨_, _, _, rfl, rfl, rfl, WkO.rfl⟩, ?_⟩ | refine HeapOK.acc rfl rfl ?_ | refine HeapOK.es rfl rfl ?_)) rfl rfl ?_
      refine MD.go rfl ?_
      refine MD.use rfl (RConfAt_spec R h.hR i) [(0, 1)] rfl rfl rfl (by repeat' (first | exact True.intro | refine ⟨⟨_, _, _, rfl, rfl, rfl, WkO.rfl⟩, ?_⟩ | refine HeapOK.acc rfl rfl ?_ | refine HeapOK.es rfl rfl ?_)) rfl rfl ?_
      refine MD.go rfl ?_
      refine MD.use0 rfl (EqInts_spec (L.confAt i).1 (R.rconf i).1 none (R.rconf i).2.2 (L.confAt i).2 (R.rconf i).2.1 (confAt_len h.hL i)) rfl rfl rfl ?_
      refine MD.go rfl ?_
      refine MD.decN rfl rfl rfl (fun hn => absurd (h.conf i) hn) (fun _ => ?_)
      refine MD.go rfl ?_
      refine MD.use rfl (Slice_spec L h.hL i 3 hI) [(0, 0)] rfl rfl rfl (by repeat' (first | exact True.intro | refine ⟨⟨_, _, _, rfl, rfl, rfl, WkO.rfl⟩, ?_⟩ | refine HeapOK.acc rfl rfl ?_ | refine HeapOK.es rfl rfl ?_)) rfl rfl ?_
      refine MD.go rfl ?_
      refine MD.use rfl (RSlice_spec R h.hR i 3 hI) [(0, 1)] rfl rfl rfl (by repeat' (first | exact True.intro | refine ⟨⟨_, _, _, rfl, rfl, rfl, WkO.rfl⟩, ?_⟩ | refine HeapOK.acc rfl rfl ?_ | refine HeapOK.es rfl rfl ?_)) rfl rfl ?_
      refine MD.go rfl ?_
      refine MD.use0 rfl (EqEntries_spec true true none none (L.slice i 3) (R.rslice i 3) (slice_ok h.hL i 3).2 (slice_ok h.hL i 3).1 (rslice_ok h.hR i 3)) rfl rfl rfl ?_
      rw [eqvL_of (h.slice i 3)]
      refine MD.go rfl (MD.nil mixed (Fnl.nodup rfl) (M.go rfl ?_))
      refine M.condB rfl (fun hn => by simp at hn) (fun _ => ?_)
      refine M.go rfl ?_
      rw [hwk]
      exact M.again (XH.ren [(0, 0), (1, 1)] ih' rfl (by repeat' (first | exact True.intro | refine ⟨⟨_, _, rfl, rfl, Wk.rfl⟩, ?_⟩ | refine ⟨⟨_, _, accV_ren rfl, rfl, Wk.rfl⟩, ?_⟩ | refine ⟨⟨_, _, accV_ren rfl, rfl, Wk.acc0⟩, ?_⟩ | refine ⟨⟨_, _, rfl, rfl, Wk.uncap⟩, ?_⟩ | refine ⟨⟨_, _, rfl, rfl, Wk.nil⟩, ?_⟩)) (by repeat' (first | exact True.intro | refine ⟨⟨_, _, _, rfl, rfl, rfl, WkO.rfl⟩, ?_⟩ | refine HeapOK.acc rfl rfl ?_ | refine HeapOK.es rfl rfl ?_)))
theorem same_spec (h : Rel B L R) (hB : B ≤ 1000) : CallS Try.prog base 53 [.c (.ptr 0 0), .c (.ptr 1 0)] (H2 L R) (.c (.p (.bool true))) (H2 L R) := by
  refine CallS.of noNG lSame.2 rfl (M.start (M.go rfl ?_))
  refine M.regF (MF.go rfl ?_)
  refine MF.use rfl (Base_spec L) [(0, 0)] rfl rfl rfl (by repeat' (first | exact True.intro | refine ⟨⟨_, _, _, rfl, rfl, rfl, WkO.rfl⟩, ?_⟩ | refine HeapOK.acc rfl rfl ?_ | refine HeapOK.es rfl rfl ?_)) rfl rfl (MF.go rfl ?_)
  refine MF.decN rfl rfl rfl (fun hn => absurd h.ix hn) (fun _ => ?_)
  refine MF.go rfl ?_
  refine MF.use rfl (Last_spec L h.hL) [(0, 0)] rfl rfl rfl (by repeat' (first | exact True.intro | refine ⟨⟨_, _, _, rfl, rfl, rfl, WkO.rfl⟩, ?_⟩ | refine HeapOK.acc rfl rfl ?_ | refine HeapOK.es rfl rfl ?_)) rfl rfl (MF.go rfl ?_)
  refine MF.use rfl (RLast_spec R h.hR) [(0, 1)] rfl rfl rfl (by repeat' (first | exact True.intro | refine ⟨⟨_, _, _, rfl, rfl, rfl, WkO.rfl⟩, ?_⟩ | refine HeapOK.acc rfl rfl ?_ | refine HeapOK.es rfl rfl ?_)) rfl rfl (MF.go rfl ?_)
  refine MF.decN rfl rfl rfl (fun hn => absurd h.lastE.symm hn) (fun _ => ?_)
  refine MF.go rfl ?_
  refine MF.use rfl (Snap_spec L h.hL) [(0, 0)] rfl rfl rfl (by repeat' (first | exact True.intro | refine ⟨⟨_, _, _, rfl, rfl, rfl, WkO.rfl⟩, ?_⟩ | refine HeapOK.acc rfl rfl ?_ | refine HeapOK.es rfl rfl ?_)) rfl rfl (MF.go rfl ?_)
  refine MF.use0 rfl (EqSnap_spec L.S.own R.S ⟨h.hL.S.ix, h.hL.S.tm, h.hL.S.cf, h.hL.S.d⟩ h.hR.S) rfl rfl rfl (MF.go rfl ?_)
  refine MF.decB rfl rfl rfl (fun hn => by rw [h.snap] at hn; simp at hn) (fun _ => ?_)
  refine MF.go rfl ?_
  refine MF.use rfl (Conf_spec L h.hL) [(0, 0)] rfl rfl rfl (by repeat' (first | exact True.intro | refine ⟨⟨_, _, _, rfl, rfl, rfl, WkO.rfl⟩, ?_⟩ | refine HeapOK.acc rfl rfl ?_ | refine HeapOK.es rfl rfl ?_)) rfl rfl (MF.go rfl ?_)
  refine MF.use rfl (RConf_spec R h.hR) [(0, 1)] rfl rfl rfl (by repeat' (first | exact True.intro | refine ⟨⟨_, _, _, rfl, rfl, rfl, WkO.rfl⟩, ?_⟩ | refine HeapOK.acc rfl rfl ?_ | refine HeapOK.es rfl rfl ?_)) rfl rfl (MF.go rfl ?_)
  refine MF.use0 rfl (EqInts_spec (L.confAt L.last).1 (R.rconf R.last).1 none (R.rconf R.last).2.2 (L.confAt L.last).2 (R.rconf R.last).2.1 (confAt_len h.hL _)) rfl rfl rfl (MF.go rfl ?_)
  refine MF.nil mixed (Fnl.nodup rfl) rfl ⟨⟨stepX_ok rfl, trivial⟩, ⟨stepX_ok rfl, trivial⟩, trivial⟩ (M.go rfl ?_)
  refine M.condN rfl (fun hn => absurd (by rw [h.lastE]; exact h.conf L.last) hn) (fun _ => ?_)
  refine M.go rfl ?_
  refine M.loop (XH.ren [(0, 0), (1, 1)] (same_loop h hB _ ?_ (R.E.length + 3) (-1) (by omega) (by push_cast; omega)) rfl (by repeat' (first | exact True.intro | refine ⟨⟨_, _, rfl, rfl, Wk.rfl⟩, ?_⟩ | refine ⟨⟨_, _, accV_ren rfl, rfl, Wk.rfl⟩, ?_⟩ | refine ⟨⟨_, _, accV_ren rfl, rfl, Wk.acc0⟩, ?_⟩ | refine ⟨⟨_, _, rfl, rfl, Wk.uncap⟩, ?_⟩ | refine ⟨⟨_, _, rfl, rfl, Wk.nil⟩, ?_⟩)) (by repeat' (first | exact True.intro | refine ⟨⟨_, _, _, rfl, rfl, rfl, WkO.rfl⟩, ?_⟩ | refine HeapOK.acc rfl rfl ?_ | refine HeapOK.es rfl rfl ?_)))
  refine M.q (M.go rfl ?_)
  exact M.ret (M.go rfl (M.done (finQ.ret [(0, 0), (1, 1)] rfl rfl rfl Wk.rfl (by repeat' (first | exact True.intro | refine ⟨⟨_, _, _, rfl, rfl, rfl, WkO.rfl⟩, ?_⟩ | refine HeapOK.acc rfl rfl ?_ | refine HeapOK.es rfl rfl ?_)))))
end Go.Proofs.Yteegdhfekemhmaa

namespace Go.Proofs.Yteegdhfekemhmaa
open Go.RowKit Sim Go Sym
set_option maxRecDepth 100000
set_option linter.unusedVariables false
set_option linter.unusedSimpArgs false
variable {base : Nat} {B : Nat} {L R : PLog}
structure Ent.raw (e : Ent) : Prop where
  ix : I64 e.ix
  tm : I64 e.tm
  kd : I64 e.kd
  d : ∀ b ∈ e.d, b < 256
structure Snp.raw (s : Snp) : Prop where
  ix : I64 s.ix
  tm : I64 s.tm
  cf : s.cf.length ≤ 100000000000000 ∧ ∀ i ∈ s.cf, I64 i
  d : ∀ b ∈ s.d, b < 256
theorem Ent.raw.cut {e : Ent} (h : e.raw) : e.cut.ok := ⟨h.ix, h.tm, h.kd, by simp [Ent.cut]; omega, fun b hb => h.d b (List.mem_of_mem_take hb)⟩
theorem cutEs_ok {l : List Ent} {n : Nat} (h : ∀ e ∈ l, e.raw) : ∀ e ∈ cutEs l n, e.ok := by
  intro e he
  obtain ⟨x, hx, rfl⟩ := List.mem_map.1 he
  exact (h x (List.mem_of_mem_take hx)).cut
theorem cutEs_len (l : List Ent) (n : Nat) : (cutEs l n).length ≤ n := by simp [cutEs]; omega
theorem mayI_len {l : List Int} (h : mayI l = true) : l.length ≤ 7 := by
  have := incB_len l 0 (by decide) (by simpa using (Bool.and_eq_true _ _ ▸ h : _ ∧ _).1)
  omega
theorem Snp.raw.cut {s : Snp} (h : s.raw) : s.cut.ok := by
  unfold Snp.cut
  split
  · rename_i hm
    have := mayI_len hm
    exact ⟨h.ix, h.tm, ⟨by simp only; omega, h.cf.2⟩, by simp; omega, fun b hb => h.d b (List.mem_of_mem_take hb)⟩
  · exact ⟨h.ix, h.tm, ⟨by simp, by simp⟩, by simp; omega, fun b hb => h.d b (List.mem_of_mem_take hb)⟩
theorem Snp.cut_ix (s : Snp) : s.cut.ix = s.ix := by unfold Snp.cut; split <;> rfl
theorem Snp.cut_tm (s : Snp) : s.cut.tm = s.tm := by unfold Snp.cut; split <;> rfl
theorem new_eq (s : Snp) (l : List Ent) (h : s.ix ≤ 1125899906842624) (hl : l.length ≤ 20) : newOk s l = rnewOk s l := by
  unfold newOk rnewOk
  by_cases h0 : s.ix < 0
  · simp [h0]
  · rw [may_good l s.ix s.tm (by omega) (by omega)]
theorem Rel.new (s : Snp) (hs : s.ok) (l : List Ent) (h : s.ix ≤ 1125899906842624) (hl : l.length ≤ 20) (hok : ∀ e ∈ l, e.ok) (hy : rnewOk s l = true) : Rel 20 ⟨s.own, l.map Ent.own, true, none⟩ ⟨s, l, true, none⟩ := by
  have h0 : 0 ≤ s.ix := by
    rcases Int.lt_or_le s.ix 0 with h | h
    · simp [rnewOk, h] at hy
    · exact h
  have hg : goodF s.ix s.tm l = true := by
    simp [rnewOk] at hy
    exact hy.2.2
  refine ⟨⟨⟨hs.ix, hs.tm, hs.cf, hs.d⟩, h0, by simp [PLog.last, Snp.own]; omega, by simp; omega, fun e he => ?_⟩, ⟨hs, h0, by simp [PLog.last]; omega, by simp; omega, hok⟩, rfl, rfl, rfl, rfl, keys_own l, fun j hj => ?_, by simpa using hl, by simp [PLog.last, Snp.own]; omega⟩
  · obtain ⟨x, hx, rfl⟩ := List.mem_map.1 he
    have := hok x hx
    exact ⟨this.ix, this.tm, this.kd, this.d⟩
  · have hj' : j < l.length := by simpa using hj
    have := good_seq (by omega) (by omega) hg j hj'
    simp [List.getD, hj'] at this ⊢
    exact this
theorem Rel.mono {B' : Nat} (h : Rel B L R) (hB : B ≤ B') : Rel B' L R := ⟨h.hL, h.hR, h.ix, h.tm, h.cf, h.d, h.E, h.seq, Nat.le_trans h.len hB, by have := h.top; omega⟩
theorem Rel.putE (h : Rel B L R) (hB : B ≤ 1000) (e : Ent) (l : List Ent) (hl : (e :: l).length ≤ 8) : L.putOk (e :: l) = R.rputOk (e :: l) := by
  have htop := h.top
  have hix := h.hL.ix
  rw [PLog.putOk, PLog.rputOk, h.lastE, ← h.ix, h.term]
  by_cases h1 : L.S.ix < e.ix
  · by_cases h2 : e.ix ≤ L.last + 1
    · rw [may_good _ _ _ (by omega) (by omega)]
    · simp [h2]
  · simp [h1]
theorem getD_app {l r : List Ent} {j : Nat} : (l ++ r).getD j default = if j < l.length then l.getD j default else r.getD (j - l.length) default := by
  simp only [List.getD]
  split
  · rename_i h; rw [List.getElem?_append_left h]
  · rename_i h; rw [List.getElem?_append_right (by omega)]
theorem getD_take {l : List Ent} {j k : Nat} (h : j < k) : (l.take k).getD j default = l.getD j default := by
  simp only [List.getD, List.getElem?_take, if_pos h]
theorem getD_own (l : List Ent) (j : Nat) : ((l.map Ent.own).getD j default).ix = (l.getD j default).ix := by
  simp only [List.getD, List.getElem?_map]
  cases l[j]? <;> rfl
theorem Rel.put (h : Rel B L R) (hB : B ≤ 1000) (e : Ent) (l : List Ent) (hl : (e :: l).length ≤ 8) (hok : ∀ x ∈ e :: l, x.ok) (hy : R.rputOk (e :: l) = true) : Rel (B + 8) (L.put (e :: l)) (R.rput (e :: l)) := by
  have htop := h.top
  have hix := h.hL.ix
  have hlen := h.len
  rw [PLog.rputOk, h.lastE, ← h.ix] at hy
  simp only [Bool.and_eq_true, decide_eq_true_eq] at hy
  obtain ⟨y1, y2, y3⟩ := hy
  obtain ⟨k, hk⟩ : ∃ k : Nat, (k : Int) = e.ix - L.S.ix - 1 := ⟨(e.ix - L.S.ix - 1).toNat, by omega⟩
  have hk' : (e.ix - L.S.ix - 1).toNat = k := by omega
  have hkl : k ≤ L.E.length := by unfold PLog.last at y2; omega
  have eL : L.put (e :: l) = ⟨L.S, L.E.take k ++ (e :: l).map Ent.own, true, none⟩ := by rw [PLog.put, List.headD_cons, hk']
  have eR : R.rput (e :: l) = ⟨R.S, R.E.take k ++ (e :: l), true, none⟩ := by rw [PLog.rput, List.headD_cons, ← h.ix, hk']
  have lL : (L.E.take k ++ (e :: l).map Ent.own).length = k + (e :: l).length := by rw [List.length_append, List.length_take, List.length_map, Nat.min_eq_left hkl]
  have lR : (R.E.take k ++ (e :: l)).length = k + (e :: l).length := by rw [List.length_append, List.length_take, h.lenE, Nat.min_eq_left hkl]
  unfold PLog.last at htop
  rw [eL, eR]
  refine ⟨⟨h.hL.S, hix, ?_, ?_, ?_⟩, ⟨h.hR.S, by rw [← h.ix]; exact hix, ?_, ?_, ?_⟩, h.ix, h.tm, h.cf, h.d, ?_, ?_, ?_, ?_⟩
  · simp only [PLog.last, lL]; omega
  · rw [lL]; omega
  · intro x hx
    simp only [List.mem_append] at hx
    rcases hx with hx | hx
    · exact h.hL.E x (List.mem_of_mem_take hx)
    · obtain ⟨y, hy, rfl⟩ := List.mem_map.1 hx
      have := hok y hy
      exact ⟨this.ix, this.tm, this.kd, this.d⟩
  · simp only [PLog.last, lR, ← h.ix]; omega
  · rw [lR]; omega
  · intro x hx
    simp only [List.mem_append] at hx
    rcases hx with hx | hx
    · exact h.hR.E x (List.mem_of_mem_take hx)
    · exact hok x hx
  · rw [List.map_append, List.map_append, keys_own, List.map_take, List.map_take, h.E]
  · intro j hj
    rw [lL] at hj
    have ht : (L.E.take k).length = k := by rw [List.length_take, Nat.min_eq_left hkl]
    rw [getD_app, ht]
    split
    · rename_i hjk
      rw [getD_take hjk]
      exact h.seq j (by omega)
    · rename_i hjk
      rw [getD_own, good_seq (by omega) (by omega) y3 (j - k) (by omega)]
      show _ = L.S.ix + (j : Int) + 1
      omega
  · rw [lL]; omega
  · simp only [PLog.last, lL]; push_cast; omega
theorem term_I64 (hL : L.ok) (i : Int) : I64 (L.term i).1 := by
  rw [PLog.term]
  split
  · exact hL.S.tm
  · split
    · exact ⟨by decide, by decide⟩
    · obtain ⟨j, -, -, h, -⟩ := PLog.at_get (L := L) (i := i) (by omega) (by omega)
      exact (hL.at_ h).tm
theorem incB_rng : ∀ (l : List Int) (p : Int), 0 ≤ p → incB p l = true → ∀ i ∈ l, I64 i
  | [], _, _, _, i, hi => by cases hi
  | b :: l, p, hp, h, i, hi => by
    simp only [incB, Bool.and_eq_true, decide_eq_true_eq] at h
    rcases List.mem_cons.1 hi with rfl | hi
    · exact ⟨by omega, by omega⟩
    · exact incB_rng l b (by omega) h.2 i hi
theorem selI_I64 (l : List Int) : ∀ i ∈ selI l, I64 i := by
  unfold selI mayI
  split
  · rename_i h; exact incB_rng l 0 (by omega) (by simpa using (Bool.and_eq_true _ _ ▸ h : _ ∧ _).1)
  · simp
theorem confAt_I64 (hL : L.ok) (i : Int) : ∀ x ∈ (L.confAt i).2, I64 x := by
  rw [PLog.confAt]
  generalize (min i L.last - L.S.ix).toNat = n
  induction n with
  | zero => exact hL.S.cf.2
  | succ n ih =>
    rw [PLog.confN]
    split
    · rw [natI_mem]; exact selI_I64 _
    · exact ih
theorem Rel.compact (h : Rel B L R) (hB : B ≤ 1000) (i : Int) (dz : Bool) (d : List Nat) (hd : okB d) (h1 : L.S.ix < i) (h2 : i ≤ L.last) : Rel B (L.compact i dz d) (R.rcompact i d) := by
  have htop := h.top
  have hix := h.hL.ix
  have hlen := h.len
  obtain ⟨k, hk⟩ : ∃ k : Nat, (k : Int) = i - L.S.ix := ⟨(i - L.S.ix).toNat, by omega⟩
  have hk' : (i - L.S.ix).toNat = k := by omega
  have hkl : k ≤ L.E.length := by unfold PLog.last at h2; omega
  have eL : L.compact i dz d = ⟨⟨i, (L.term i).1, (L.confAt i).1, (L.confAt i).2, none, dz, d, none⟩, L.E.drop k, L.z && (entP L.E).isEmpty, none⟩ := by rw [PLog.compact, hk']
  have eR : R.rcompact i d = ⟨⟨i, (R.term i).1, (R.rconf i).1, (R.rconf i).2.1, (R.rconf i).2.2, true, d, none⟩, R.E.drop k, true, none⟩ := by rw [PLog.rcompact, ← h.ix, hk']
  have hcf : (L.confAt i).2.length ≤ 100000000000 ∧ ∀ x ∈ (L.confAt i).2, I64 x := ⟨confAt_len h.hL i, confAt_I64 h.hL i⟩
  unfold PLog.last at htop h2
  rw [eL, eR]
  refine ⟨⟨⟨⟨by simp only; omega, by simp only; omega⟩, term_I64 h.hL i, hcf, hd⟩, by simp only; omega, ?_, ?_, ?_⟩, ⟨⟨⟨by simp only; omega, by simp only; omega⟩, term_I64 h.hR i, h.conf i ▸ hcf, hd⟩, by simp only; omega, ?_, ?_, ?_⟩, rfl, by simp only [h.term], h.conf i, rfl, ?_, ?_, ?_, ?_⟩
  · simp only [PLog.last, List.length_drop]; omega
  · simp only [List.length_drop]; omega
  · exact fun x hx => h.hL.E x (List.mem_of_mem_drop hx)
  · simp only [PLog.last, List.length_drop, h.lenE]; omega
  · simp only [List.length_drop, h.lenE]; omega
  · exact fun x hx => h.hR.E x (List.mem_of_mem_drop hx)
  · simp only [List.map_drop, h.E]
  · intro j hj
    simp only [List.length_drop] at hj
    have := h.seq (k + j) (by omega)
    simp only [List.getD, List.getElem?_drop] at this ⊢
    rw [this]; omega
  · simp only [List.length_drop]; omega
  · simp only [PLog.last, List.length_drop]; omega
theorem Rel.reset (h : Rel B L R) (hB : B ≤ 1000) (s : Snp) (hs : s.ok) (h0 : 0 ≤ s.ix) (h1 : s.ix ≤ 1125899906842624) : Rel B (L.reset s) (R.rreset s) := by
  have htop := h.top
  have hix := h.hL.ix
  have hlen := h.len
  have hso : s.own.ok := ⟨hs.ix, hs.tm, hs.cf, hs.d⟩
  rw [PLog.reset, PLog.rreset, h.keeps]
  split
  · rename_i hk
    have hk1 : (L.term s.ix).2 = true ∧ L.S.ix < s.ix := by
      rw [PLog.keeps, ← h.term, ← h.ix] at hk
      simp only [Bool.and_eq_true, decide_eq_true_eq] at hk
      exact ⟨hk.1, hk.2.1⟩
    have hl := PLog.term_true hk1.1 hk1.2
    have h2 := hk1.2
    obtain ⟨k, hk2⟩ : ∃ k : Nat, (k : Int) = s.ix - L.S.ix := ⟨(s.ix - L.S.ix).toNat, by omega⟩
    have hk' : (s.ix - L.S.ix).toNat = k := by omega
    unfold PLog.last at htop hl
    rw [← h.ix, hk']
    refine ⟨⟨hso, h0, ?_, ?_, ?_⟩, ⟨hs, h0, ?_, ?_, ?_⟩, rfl, rfl, rfl, rfl, ?_, ?_, ?_, ?_⟩
    · simp only [PLog.last, List.length_drop, Snp.own]; omega
    · simp only [List.length_drop]; omega
    · exact fun x hx => h.hL.E x (List.mem_of_mem_drop hx)
    · simp only [PLog.last, List.length_drop, h.lenE]; omega
    · simp only [List.length_drop, h.lenE]; omega
    · exact fun x hx => h.hR.E x (List.mem_of_mem_drop hx)
    · simp only [List.map_drop, h.E]
    · intro j hj
      simp only [List.length_drop] at hj
      have := h.seq (k + j) (by omega)
      simp only [List.getD, List.getElem?_drop, Snp.own] at this ⊢
      rw [this]; omega
    · simp only [List.length_drop]; omega
    · simp only [PLog.last, List.length_drop, Snp.own]; omega
  · refine ⟨⟨hso, h0, ?_, by simp, by simp⟩, ⟨hs, h0, ?_, by simp, by simp⟩, rfl, rfl, rfl, rfl, rfl, fun j hj => by simp at hj, by simp, ?_⟩
    · simp [PLog.last, Snp.own]; omega
    · simp [PLog.last]; omega
    · simp [PLog.last, Snp.own]; omega
end Go.Proofs.Yteegdhfekemhmaa

namespace Go.Proofs.Yteegdhfekemhmaa
open Go.RowKit Sim Go Sym
variable {base : Nat}
theorem begun23_spec : CallS Try.prog base 70 [] ⟨[], 0⟩ (.c (.p (.bool true))) ⟨[], 0⟩ := CallS.closed (m := 2000) mixed noNG (by kernel_rfl)
end Go.Proofs.Yteegdhfekemhmaa

namespace Go.Proofs.Yteegdhfekemhmaa
open Go.RowKit Sim Go Sym
set_option maxRecDepth 100000
set_option linter.unusedVariables false
set_option linter.unusedSimpArgs false
variable {base : Nat} {B : Nat} {L R : PLog}
structure LOpr where
  kd : Int
  i : Int
  ez : Bool
  es : List Ent
  s : Snp
  bz : Bool
  b : List Nat
def LOpr.cs (o : LOpr) : List PC := [.int .i64 o.kd, .int .i64 o.i, .tz o.ez 4 (entP o.es) none, .int .i64 o.s.ix, .int .i64 o.s.tm, .tz o.s.cz 1 (inP o.s.cf) o.s.cc, .tz o.s.dz 1 (byP o.s.d) o.s.dc, .tz o.bz 1 (byP o.b) none]
def LOpr.pc (o : LOpr) : PC := .agg o.cs
structure LOpr.raw (o : LOpr) : Prop where
  i : I64 o.i
  es : o.es.length ≤ 100000000000000 ∧ ∀ e ∈ o.es, e.raw
  s : o.s.raw
  b : ∀ x ∈ o.b, x < 256
noncomputable def lAll : {F : LF // lowerF Try.prog 10 = some F} := ⟨_, rfl⟩
def opP (l : List LOpr) : List PC := l.map LOpr.pc
theorem opP_len (l : List LOpr) : (opP l).length = l.length := by simp [opP]
theorem all_loop (z : Bool) (c : Option Nat) (ops : List LOpr) (hops : ∀ o ∈ ops, o.raw) (hl : ops.length ≤ 100000000000000) (Q : QX) (hq : Q (.exit 0) [] ⟨[], 0⟩) :
    ∀ (rest pre : List LOpr) (L R : PLog), ops = pre ++ rest → pre.length ≤ 20 → Rel (20 + 8 * pre.length) L R → XH Try.prog base lAll.1.n 0 (lAll.1.c.lp 0) [(2, .c (.p (.tz z 8 (opP ops) c))), (8, .c (.ptr 0 0)), (9, .c (.ptr 1 0)), (10, .c (.p (.int .i64 pre.length)))] (H2 L R) Q := by
  intro rest
  induction rest with
  | nil =>
    intro pre L R hp hn h
    simp at hp
    subst hp
    refine M.round (M.go rfl ?_)
    refine M.dec rfl (fun hc => absurd hc (by rw [opP_len]; omega)) (fun hc => ?_)
    refine M.go rfl ?_
    refine M.ren [] ?_ trivial rfl (by repeat' (first | exact True.intro | refine ⟨⟨_, _, rfl, rfl, Wk.rfl⟩, ?_⟩ | refine ⟨⟨_, _, accV_ren rfl, rfl, Wk.rfl⟩, ?_⟩ | refine ⟨⟨_, _, accV_ren rfl, rfl, Wk.acc0⟩, ?_⟩ | refine ⟨⟨_, _, rfl, rfl, Wk.uncap⟩, ?_⟩ | refine ⟨⟨_, _, rfl, rfl, Wk.nil⟩, ?_⟩)) (by repeat' (first | exact True.intro | refine ⟨⟨_, _, _, rfl, rfl, rfl, WkO.rfl⟩, ?_⟩ | refine HeapOK.acc rfl rfl ?_ | refine HeapOK.es rfl rfl ?_)) (e' := []) (h' := ⟨[], 0⟩)
    exact M.exit (M.go rfl (M.done hq))
  | cons o rest ih =>
    intro pre L R hp hn h
    have hlen : (opP ops).length = pre.length + (rest.length + 1) := by rw [hp]; simp [opP]
    have hu : (opP ops)[((pre.length : Int)).toNat]? = some o.pc := by rw [hp]; exact at_app _ _ _ _
    have ho : o.raw := hops o (by rw [hp]; simp)
    have hll : pre.length + rest.length < 100000000000000 := by rw [hp] at hl; simp at hl; omega
    refine M.round (M.go rfl ?_)
    refine M.dec rfl (fun hc => ?_) (fun hc => absurd (by omega) hc)
    refine M.go rfl ?_
    refine M.cond rfl (fun hc20 => ?_) (fun hc20 => ?_)
    · refine M.go rfl ?_
      refine M.op trivial (SOp.ia rfl rfl (by omega) hu) ?_
      refine M.op trivial (SOp.ldne rfl hu rfl rfl rfl) ?_
      refine M.go rfl ?_
      have hw2 : IntKind.i64.wrap ((pre.length : Int) + 1) = ((pre ++ [o]).length : Int) := by rw [wr64 (by omega) (by omega)]; simp
      have ih' := fun L R h => ih (pre ++ [o]) L R (by rw [hp]; simp) (by simp; omega) h
      have hB : 20 + 8 * pre.length ≤ 1000 := by omega
      have hB' : 20 + 8 * (pre ++ [o]).length = 20 + 8 * pre.length + 8 := by simp; omega
      have hmax : L.last < 9223372036854775807 := by have := h.top; omega
      have hmaxR : R.last < 9223372036854775807 := by rw [h.lastE]; exact hmax
      refine M.cond rfl (fun hk => ?_) (fun hk => ?_)
      · refine M.go rfl ?_
        refine M.use0 trivial (CutEntries_spec o.ez none o.es 8 ho.es.1 (by omega)) rfl rfl rfl ?_
        refine M.go rfl ?_
        obtain ⟨X, hX⟩ : ∃ X, X = cutEs o.es 8 := ⟨_, rfl⟩
        have hXok : ∀ e ∈ X, e.ok := by rw [hX]; exact cutEs_ok ho.es.2
        have hXl : X.length ≤ 8 := by rw [hX]; exact cutEs_len _ _
        rw [← hX]
        cases X with
        | nil =>
          refine M.use (by first | exact True.intro | exact rfl) (Put_nil L true none) [(0, 0)] rfl rfl rfl (by repeat' (first | exact True.intro | refine ⟨⟨_, _, _, rfl, rfl, rfl, WkO.rfl⟩, ?_⟩ | refine HeapOK.acc rfl rfl ?_ | refine HeapOK.es rfl rfl ?_)) rfl rfl ?_
          refine M.go rfl ?_
          refine M.use (by first | exact True.intro | exact rfl) (RPut_nil R true none) [(0, 1)] rfl rfl rfl (by repeat' (first | exact True.intro | refine ⟨⟨_, _, _, rfl, rfl, rfl, WkO.rfl⟩, ?_⟩ | refine HeapOK.acc rfl rfl ?_ | refine HeapOK.es rfl rfl ?_)) rfl rfl ?_
          refine M.go rfl ?_
          refine M.condB rfl (fun hn => by simp at hn) (fun _ => ?_)
          refine M.go rfl ?_
          refine M.use (by first | exact True.intro | exact rfl) (same_spec h hB) [(0, 0), (1, 1)] rfl rfl rfl (by repeat' (first | exact True.intro | refine ⟨⟨_, _, _, rfl, rfl, rfl, WkO.rfl⟩, ?_⟩ | refine HeapOK.acc rfl rfl ?_ | refine HeapOK.es rfl rfl ?_)) rfl rfl ?_
          refine M.go rfl ?_
          rw [hw2]
          exact M.again (XH.ren [(0, 0), (1, 1)] (ih' _ _ (by rw [hB']; exact h.mono (by omega))) rfl (by repeat' (first | exact True.intro | refine ⟨⟨_, _, rfl, rfl, Wk.rfl⟩, ?_⟩ | refine ⟨⟨_, _, accV_ren rfl, rfl, Wk.rfl⟩, ?_⟩ | refine ⟨⟨_, _, accV_ren rfl, rfl, Wk.acc0⟩, ?_⟩ | refine ⟨⟨_, _, rfl, rfl, Wk.uncap⟩, ?_⟩ | refine ⟨⟨_, _, rfl, rfl, Wk.nil⟩, ?_⟩)) (by repeat' (first | exact True.intro | refine ⟨⟨_, _, _, rfl, rfl, rfl, WkO.rfl⟩, ?_⟩ | refine HeapOK.acc rfl rfl ?_ | refine HeapOK.es rfl rfl ?_)))
        | cons e l =>
          have hpe := h.putE hB e l hXl
          by_cases hy : R.rputOk (e :: l) = true
          · refine M.use (by first | exact True.intro | exact rfl) (Put_yes L h.hL hmax true none e l (by omega) hXok (by rw [hpe]; exact hy)) [(0, 0)] rfl rfl rfl (by repeat' (first | exact True.intro | refine ⟨⟨_, _, _, rfl, rfl, rfl, WkO.rfl⟩, ?_⟩ | refine HeapOK.acc rfl rfl ?_ | refine HeapOK.es rfl rfl ?_)) rfl rfl ?_
            refine M.go rfl ?_
            refine M.use (by first | exact True.intro | exact rfl) (RPut_yes R h.hR hmaxR true none e l (by omega) hXok hy) [(0, 1)] rfl rfl rfl (by repeat' (first | exact True.intro | refine ⟨⟨_, _, _, rfl, rfl, rfl, WkO.rfl⟩, ?_⟩ | refine HeapOK.acc rfl rfl ?_ | refine HeapOK.es rfl rfl ?_)) rfl rfl ?_
            refine M.go rfl ?_
            refine M.condB rfl (fun hn => by simp at hn) (fun _ => ?_)
            refine M.go rfl ?_
            have h' := h.put hB e l hXl hXok hy
            refine M.use (by first | exact True.intro | exact rfl) (same_spec h' (by omega)) [(0, 0), (1, 1)] rfl rfl rfl (by repeat' (first | exact True.intro | refine ⟨⟨_, _, _, rfl, rfl, rfl, WkO.rfl⟩, ?_⟩ | refine HeapOK.acc rfl rfl ?_ | refine HeapOK.es rfl rfl ?_)) rfl rfl ?_
            refine M.go rfl ?_
            rw [hw2]
            exact M.again (XH.ren [(0, 0), (1, 1)] (ih' _ _ (by rw [hB']; exact h')) rfl (by repeat' (first | exact True.intro | refine ⟨⟨_, _, rfl, rfl, Wk.rfl⟩, ?_⟩ | refine ⟨⟨_, _, accV_ren rfl, rfl, Wk.rfl⟩, ?_⟩ | refine ⟨⟨_, _, accV_ren rfl, rfl, Wk.acc0⟩, ?_⟩ | refine ⟨⟨_, _, rfl, rfl, Wk.uncap⟩, ?_⟩ | refine ⟨⟨_, _, rfl, rfl, Wk.nil⟩, ?_⟩)) (by repeat' (first | exact True.intro | refine ⟨⟨_, _, _, rfl, rfl, rfl, WkO.rfl⟩, ?_⟩ | refine HeapOK.acc rfl rfl ?_ | refine HeapOK.es rfl rfl ?_)))
          · have hy' : R.rputOk (e :: l) = false := by simpa using hy
            refine M.use (by first | exact True.intro | exact rfl) (Put_no L h.hL hmax true none e l (by omega) hXok (by rw [hpe]; exact hy')) [(0, 0)] rfl rfl rfl (by repeat' (first | exact True.intro | refine ⟨⟨_, _, _, rfl, rfl, rfl, WkO.rfl⟩, ?_⟩ | refine HeapOK.acc rfl rfl ?_ | refine HeapOK.es rfl rfl ?_)) rfl rfl ?_
            refine M.go rfl ?_
            refine M.use (by first | exact True.intro | exact rfl) (RPut_no R h.hR hmaxR true none e l (by omega) hXok hy') [(0, 1)] rfl rfl rfl (by repeat' (first | exact True.intro | refine ⟨⟨_, _, _, rfl, rfl, rfl, WkO.rfl⟩, ?_⟩ | refine HeapOK.acc rfl rfl ?_ | refine HeapOK.es rfl rfl ?_)) rfl rfl ?_
            refine M.go rfl ?_
            refine M.condB rfl (fun hn => by simp at hn) (fun _ => ?_)
            refine M.go rfl ?_
            refine M.use (by first | exact True.intro | exact rfl) (same_spec h hB) [(0, 0), (1, 1)] rfl rfl rfl (by repeat' (first | exact True.intro | refine ⟨⟨_, _, _, rfl, rfl, rfl, WkO.rfl⟩, ?_⟩ | refine HeapOK.acc rfl rfl ?_ | refine HeapOK.es rfl rfl ?_)) rfl rfl ?_
            refine M.go rfl ?_
            rw [hw2]
            exact M.again (XH.ren [(0, 0), (1, 1)] (ih' _ _ (by rw [hB']; exact h.mono (by omega))) rfl (by repeat' (first | exact True.intro | refine ⟨⟨_, _, rfl, rfl, Wk.rfl⟩, ?_⟩ | refine ⟨⟨_, _, accV_ren rfl, rfl, Wk.rfl⟩, ?_⟩ | refine ⟨⟨_, _, accV_ren rfl, rfl, Wk.acc0⟩, ?_⟩ | refine ⟨⟨_, _, rfl, rfl, Wk.uncap⟩, ?_⟩ | refine ⟨⟨_, _, rfl, rfl, Wk.nil⟩, ?_⟩)) (by repeat' (first | exact True.intro | refine ⟨⟨_, _, _, rfl, rfl, rfl, WkO.rfl⟩, ?_⟩ | refine HeapOK.acc rfl rfl ?_ | refine HeapOK.es rfl rfl ?_)))
      · refine M.go rfl ?_
        refine M.cond rfl (fun hk => ?_) (fun hk => ?_)
        · refine M.go rfl ?_
          refine M.use0 trivial (short_spec o.bz (byP o.b) none 50 (by omega)) rfl rfl rfl ?_
          refine M.go rfl ?_
          rw [byP_take]
          have hd : okB (o.b.take 50) := ⟨by simp; omega, fun b hb => ho.b b (List.mem_of_mem_take hb)⟩
          by_cases hno : o.i ≤ L.S.ix ∨ L.last < o.i
          · refine M.regF (MF.go rfl ?_)
            refine MF.use (by first | exact True.intro | exact rfl) (Comp_no L h.hL o.i ho.i o.bz (o.b.take 50) none hno) [(0, 0)] rfl rfl rfl (by repeat' (first | exact True.intro | refine ⟨⟨_, _, _, rfl, rfl, rfl, WkO.rfl⟩, ?_⟩ | refine HeapOK.acc rfl rfl ?_ | refine HeapOK.es rfl rfl ?_)) rfl rfl (MF.go rfl ?_)
            refine MF.use (by first | exact True.intro | exact rfl) (RComp_no R h.hR o.i ho.i o.bz (o.b.take 50) none (by rw [← h.ix, h.lastE]; exact hno)) [(0, 1)] rfl rfl rfl (by repeat' (first | exact True.intro | refine ⟨⟨_, _, _, rfl, rfl, rfl, WkO.rfl⟩, ?_⟩ | refine HeapOK.acc rfl rfl ?_ | refine HeapOK.es rfl rfl ?_)) rfl rfl (MF.go rfl ?_)
            refine MF.nil mixed (Fnl.nodup rfl) rfl ⟨⟨stepX_ok rfl, trivial⟩, trivial⟩ (M.go rfl ?_)
            refine M.condB rfl (fun hn => by simp at hn) (fun _ => ?_)
            refine M.go rfl ?_
            refine M.use (by first | exact True.intro | exact rfl) (same_spec h hB) [(0, 0), (1, 1)] rfl rfl rfl (by repeat' (first | exact True.intro | refine ⟨⟨_, _, _, rfl, rfl, rfl, WkO.rfl⟩, ?_⟩ | refine HeapOK.acc rfl rfl ?_ | refine HeapOK.es rfl rfl ?_)) rfl rfl ?_
            refine M.go rfl ?_
            rw [hw2]
            exact M.again (XH.ren [(0, 0), (1, 1)] (ih' _ _ (by rw [hB']; exact h.mono (by omega))) rfl (by repeat' (first | exact True.intro | refine ⟨⟨_, _, rfl, rfl, Wk.rfl⟩, ?_⟩ | refine ⟨⟨_, _, accV_ren rfl, rfl, Wk.rfl⟩, ?_⟩ | refine ⟨⟨_, _, accV_ren rfl, rfl, Wk.acc0⟩, ?_⟩ | refine ⟨⟨_, _, rfl, rfl, Wk.uncap⟩, ?_⟩ | refine ⟨⟨_, _, rfl, rfl, Wk.nil⟩, ?_⟩)) (by repeat' (first | exact True.intro | refine ⟨⟨_, _, _, rfl, rfl, rfl, WkO.rfl⟩, ?_⟩ | refine HeapOK.acc rfl rfl ?_ | refine HeapOK.es rfl rfl ?_)))
          · have h1 : L.S.ix < o.i := by omega
            have h3 : o.i ≤ L.last := by omega
            refine M.regF (MF.go rfl ?_)
            refine MF.use (by first | exact True.intro | exact rfl) (Comp_yes L h.hL o.i ho.i o.bz (o.b.take 50) none hd h1 h3) [(0, 0)] rfl rfl rfl (by repeat' (first | exact True.intro | refine ⟨⟨_, _, _, rfl, rfl, rfl, WkO.rfl⟩, ?_⟩ | refine HeapOK.acc rfl rfl ?_ | refine HeapOK.es rfl rfl ?_)) rfl rfl (MF.go rfl ?_)
            refine MF.use (by first | exact True.intro | exact rfl) (RComp_yes R h.hR o.i ho.i o.bz (o.b.take 50) none hd (by rw [← h.ix]; exact h1) (by rw [h.lastE]; exact h3)) [(0, 1)] rfl rfl rfl (by repeat' (first | exact True.intro | refine ⟨⟨_, _, _, rfl, rfl, rfl, WkO.rfl⟩, ?_⟩ | refine HeapOK.acc rfl rfl ?_ | refine HeapOK.es rfl rfl ?_)) rfl rfl (MF.go rfl ?_)
            refine MF.nil mixed (Fnl.nodup rfl) rfl ⟨⟨stepX_ok rfl, trivial⟩, trivial⟩ (M.go rfl ?_)
            refine M.condB rfl (fun hn => by simp at hn) (fun _ => ?_)
            refine M.go rfl ?_
            have h' := h.compact hB o.i o.bz (o.b.take 50) hd h1 h3
            refine M.use (by first | exact True.intro | exact rfl) (same_spec h' hB) [(0, 0), (1, 1)] rfl rfl rfl (by repeat' (first | exact True.intro | refine ⟨⟨_, _, _, rfl, rfl, rfl, WkO.rfl⟩, ?_⟩ | refine HeapOK.acc rfl rfl ?_ | refine HeapOK.es rfl rfl ?_)) rfl rfl ?_
            refine M.go rfl ?_
            rw [hw2]
            exact M.again (XH.ren [(0, 0), (1, 1)] (ih' _ _ (by rw [hB']; exact h'.mono (by omega))) rfl (by repeat' (first | exact True.intro | refine ⟨⟨_, _, rfl, rfl, Wk.rfl⟩, ?_⟩ | refine ⟨⟨_, _, accV_ren rfl, rfl, Wk.rfl⟩, ?_⟩ | refine ⟨⟨_, _, accV_ren rfl, rfl, Wk.acc0⟩, ?_⟩ | refine ⟨⟨_, _, rfl, rfl, Wk.uncap⟩, ?_⟩ | refine ⟨⟨_, _, rfl, rfl, Wk.nil⟩, ?_⟩)) (by repeat' (first | exact True.intro | refine ⟨⟨_, _, _, rfl, rfl, rfl, WkO.rfl⟩, ?_⟩ | refine HeapOK.acc rfl rfl ?_ | refine HeapOK.es rfl rfl ?_)))
        · refine M.go rfl ?_
          refine M.use0 trivial (CutSnap_spec o.s ho.s.cf.1) rfl rfl rfl ?_
          obtain ⟨s, hs⟩ : ∃ s, s = o.s.cut := ⟨_, rfl⟩
          have hsk : s.ok := by rw [hs]; exact ho.s.cut
          rw [← hs]
          refine M.go rfl ?_
          refine M.dec rfl (fun h1 => ?_) (fun h1 => ?_)
          · refine M.go rfl ?_
            refine M.exit (M.go rfl ?_)
            rw [hw2]
            exact M.again (XH.ren [(0, 0), (1, 1)] (ih' _ _ (by rw [hB']; exact h.mono (by omega))) rfl (by repeat' (first | exact True.intro | refine ⟨⟨_, _, rfl, rfl, Wk.rfl⟩, ?_⟩ | refine ⟨⟨_, _, accV_ren rfl, rfl, Wk.rfl⟩, ?_⟩ | refine ⟨⟨_, _, accV_ren rfl, rfl, Wk.acc0⟩, ?_⟩ | refine ⟨⟨_, _, rfl, rfl, Wk.uncap⟩, ?_⟩ | refine ⟨⟨_, _, rfl, rfl, Wk.nil⟩, ?_⟩)) (by repeat' (first | exact True.intro | refine ⟨⟨_, _, _, rfl, rfl, rfl, WkO.rfl⟩, ?_⟩ | refine HeapOK.acc rfl rfl ?_ | refine HeapOK.es rfl rfl ?_)))
          refine M.go rfl ?_
          refine M.dec rfl (fun h2 => ?_) (fun h2 => ?_)
          · refine M.go rfl ?_
            refine M.exit (M.go rfl ?_)
            rw [hw2]
            exact M.again (XH.ren [(0, 0), (1, 1)] (ih' _ _ (by rw [hB']; exact h.mono (by omega))) rfl (by repeat' (first | exact True.intro | refine ⟨⟨_, _, rfl, rfl, Wk.rfl⟩, ?_⟩ | refine ⟨⟨_, _, accV_ren rfl, rfl, Wk.rfl⟩, ?_⟩ | refine ⟨⟨_, _, accV_ren rfl, rfl, Wk.acc0⟩, ?_⟩ | refine ⟨⟨_, _, rfl, rfl, Wk.uncap⟩, ?_⟩ | refine ⟨⟨_, _, rfl, rfl, Wk.nil⟩, ?_⟩)) (by repeat' (first | exact True.intro | refine ⟨⟨_, _, _, rfl, rfl, rfl, WkO.rfl⟩, ?_⟩ | refine HeapOK.acc rfl rfl ?_ | refine HeapOK.es rfl rfl ?_)))
          refine M.go rfl ?_
          refine M.cond rfl (fun h3 => ?_) (fun h3 => ?_)
          · refine M.go rfl ?_
            refine M.exit (M.go rfl ?_)
            rw [hw2]
            exact M.again (XH.ren [(0, 0), (1, 1)] (ih' _ _ (by rw [hB']; exact h.mono (by omega))) rfl (by repeat' (first | exact True.intro | refine ⟨⟨_, _, rfl, rfl, Wk.rfl⟩, ?_⟩ | refine ⟨⟨_, _, accV_ren rfl, rfl, Wk.rfl⟩, ?_⟩ | refine ⟨⟨_, _, accV_ren rfl, rfl, Wk.acc0⟩, ?_⟩ | refine ⟨⟨_, _, rfl, rfl, Wk.uncap⟩, ?_⟩ | refine ⟨⟨_, _, rfl, rfl, Wk.nil⟩, ?_⟩)) (by repeat' (first | exact True.intro | refine ⟨⟨_, _, _, rfl, rfl, rfl, WkO.rfl⟩, ?_⟩ | refine HeapOK.acc rfl rfl ?_ | refine HeapOK.es rfl rfl ?_)))
          refine M.go rfl ?_
          refine M.use (by first | exact True.intro | exact rfl) (Reset_spec L h.hL s hsk) [(0, 0)] rfl rfl rfl (by repeat' (first | exact True.intro | refine ⟨⟨_, _, _, rfl, rfl, rfl, WkO.rfl⟩, ?_⟩ | refine HeapOK.acc rfl rfl ?_ | refine HeapOK.es rfl rfl ?_)) rfl rfl ?_
          refine M.go rfl ?_
          refine M.use (by first | exact True.intro | exact rfl) (RReset_spec R h.hR s hsk) [(0, 1)] rfl rfl rfl (by repeat' (first | exact True.intro | refine ⟨⟨_, _, _, rfl, rfl, rfl, WkO.rfl⟩, ?_⟩ | refine HeapOK.acc rfl rfl ?_ | refine HeapOK.es rfl rfl ?_)) rfl rfl ?_
          refine M.go rfl ?_
          have h' := h.reset hB s hsk (by omega) (by omega)
          refine M.use (by first | exact True.intro | exact rfl) (same_spec h' hB) [(0, 0), (1, 1)] rfl rfl rfl (by repeat' (first | exact True.intro | refine ⟨⟨_, _, _, rfl, rfl, rfl, WkO.rfl⟩, ?_⟩ | refine HeapOK.acc rfl rfl ?_ | refine HeapOK.es rfl rfl ?_)) rfl rfl ?_
          refine M.go rfl ?_
          rw [hw2]
          exact M.again (XH.ren [(0, 0), (1, 1)] (ih' _ _ (by rw [hB']; exact h'.mono (by omega))) rfl (by repeat' (first | exact True.intro | refine ⟨⟨_, _, rfl, rfl, Wk.rfl⟩, ?_⟩ | refine ⟨⟨_, _, accV_ren rfl, rfl, Wk.rfl⟩, ?_⟩ | refine ⟨⟨_, _, accV_ren rfl, rfl, Wk.acc0⟩, ?_⟩ | refine ⟨⟨_, _, rfl, rfl, Wk.uncap⟩, ?_⟩ | refine ⟨⟨_, _, rfl, rfl, Wk.nil⟩, ?_⟩)) (by repeat' (first | exact True.intro | refine ⟨⟨_, _, _, rfl, rfl, rfl, WkO.rfl⟩, ?_⟩ | refine HeapOK.acc rfl rfl ?_ | refine HeapOK.es rfl rfl ?_)))
    · refine M.go rfl ?_
      refine M.ren [] ?_ trivial rfl (by repeat' (first | exact True.intro | refine ⟨⟨_, _, rfl, rfl, Wk.rfl⟩, ?_⟩ | refine ⟨⟨_, _, accV_ren rfl, rfl, Wk.rfl⟩, ?_⟩ | refine ⟨⟨_, _, accV_ren rfl, rfl, Wk.acc0⟩, ?_⟩ | refine ⟨⟨_, _, rfl, rfl, Wk.uncap⟩, ?_⟩ | refine ⟨⟨_, _, rfl, rfl, Wk.nil⟩, ?_⟩)) (by repeat' (first | exact True.intro | refine ⟨⟨_, _, _, rfl, rfl, rfl, WkO.rfl⟩, ?_⟩ | refine HeapOK.acc rfl rfl ?_ | refine HeapOK.es rfl rfl ?_)) (e' := []) (h' := ⟨[], 0⟩)
      exact M.exit (M.go rfl (M.done hq))
theorem LogAll_spec (s : Snp) (hs : s.raw) (z : Bool) (es : List Ent) (hes : es.length ≤ 100000000000000 ∧ ∀ e ∈ es, e.raw) (z2 : Bool) (ops : List LOpr) (hops : ops.length ≤ 100000000000000 ∧ ∀ o ∈ ops, o.raw) :
    CallS Try.prog base 10 [s.v, .c (.p (.tz z 4 (entP es) none)), .c (.p (.tz z2 8 (opP ops) none))] ⟨[], 0⟩ (.c (.p (.bool true))) ⟨[], 0⟩ := by
  refine CallS.of noNG lAll.2 rfl (M.start (M.go rfl ?_))
  refine M.use0 trivial begun_spec rfl rfl rfl ?_
  refine M.go rfl ?_
  refine M.use0 trivial (CutSnap_spec s hs.cf.1) rfl rfl rfl ?_
  refine M.go rfl ?_
  refine M.use0 trivial (CutEntries_spec z none es 20 hes.1 (by omega)) rfl rfl rfl ?_
  obtain ⟨t, ht⟩ : ∃ t, t = s.cut := ⟨_, rfl⟩
  have htk : t.ok := by rw [ht]; exact hs.cut
  obtain ⟨X, hX⟩ : ∃ X, X = cutEs es 20 := ⟨_, rfl⟩
  have hXok : ∀ e ∈ X, e.ok := by rw [hX]; exact cutEs_ok hes.2
  have hXl : X.length ≤ 20 := by rw [hX]; exact cutEs_len _ _
  rw [← ht, ← hX]
  refine M.go rfl ?_
  refine M.dec rfl (fun h1 => ?_) (fun h1 => ?_)
  · refine M.go rfl ?_
    exact M.ret (M.go rfl (M.done (finQ.ret [] rfl rfl rfl (by first | exact Wk.rfl | exact Wk.uncap | exact Wk.nil | exact Wk.b1 rfl | exact Wk.t2 Wk.rfl (Wk.b1 rfl)) (by repeat' (first | exact True.intro | refine ⟨⟨_, _, _, rfl, rfl, rfl, WkO.rfl⟩, ?_⟩ | refine HeapOK.acc rfl rfl ?_ | refine HeapOK.es rfl rfl ?_)))))
  refine M.go rfl ?_
  refine M.cond rfl (fun h2 => ?_) (fun h2 => ?_)
  · refine M.go rfl ?_
    exact M.ret (M.go rfl (M.done (finQ.ret [] rfl rfl rfl (by first | exact Wk.rfl | exact Wk.uncap | exact Wk.nil | exact Wk.b1 rfl | exact Wk.t2 Wk.rfl (Wk.b1 rfl)) (by repeat' (first | exact True.intro | refine ⟨⟨_, _, _, rfl, rfl, rfl, WkO.rfl⟩, ?_⟩ | refine HeapOK.acc rfl rfl ?_ | refine HeapOK.es rfl rfl ?_)))))
  refine M.go rfl ?_
  have hne := new_eq t X (by omega) hXl
  by_cases hy : rnewOk t X = true
  · refine M.use (by first | exact True.intro | exact rfl) (New_yes t htk true none X (by omega) hXok (by rw [hne]; exact hy)) [] rfl rfl rfl (by repeat' (first | exact True.intro | refine ⟨⟨_, _, _, rfl, rfl, rfl, WkO.rfl⟩, ?_⟩ | refine HeapOK.acc rfl rfl ?_ | refine HeapOK.es rfl rfl ?_)) rfl rfl ?_
    refine M.go rfl ?_
    refine M.use (by first | exact True.intro | exact rfl) (RNew_yes t htk true none X (by omega) hXok hy) [] rfl rfl rfl (by repeat' (first | exact True.intro | refine ⟨⟨_, _, _, rfl, rfl, rfl, WkO.rfl⟩, ?_⟩ | refine HeapOK.acc rfl rfl ?_ | refine HeapOK.es rfl rfl ?_)) rfl rfl ?_
    refine M.go rfl ?_
    have h := Rel.new t htk X (by omega) hXl hXok hy
    refine M.use (by first | exact True.intro | exact rfl) (same_spec h (by omega)) [(0, 1), (1, 2)] rfl rfl rfl (by repeat' (first | exact True.intro | refine ⟨⟨_, _, _, rfl, rfl, rfl, WkO.rfl⟩, ?_⟩ | refine HeapOK.acc rfl rfl ?_ | refine HeapOK.es rfl rfl ?_)) rfl rfl ?_
    refine M.go rfl ?_
    refine M.loop (XH.ren [(0, 1), (1, 2)] (all_loop z2 none ops hops.2 hops.1 _ ?_ ops [] _ _ rfl (by simp) h) rfl (by repeat' (first | exact True.intro | refine ⟨⟨_, _, rfl, rfl, Wk.rfl⟩, ?_⟩ | refine ⟨⟨_, _, accV_ren rfl, rfl, Wk.rfl⟩, ?_⟩ | refine ⟨⟨_, _, accV_ren rfl, rfl, Wk.acc0⟩, ?_⟩ | refine ⟨⟨_, _, rfl, rfl, Wk.uncap⟩, ?_⟩ | refine ⟨⟨_, _, rfl, rfl, Wk.nil⟩, ?_⟩)) (by repeat' (first | exact True.intro | refine ⟨⟨_, _, _, rfl, rfl, rfl, WkO.rfl⟩, ?_⟩ | refine HeapOK.acc rfl rfl ?_ | refine HeapOK.es rfl rfl ?_)))
    refine M.q (M.go rfl ?_)
    exact M.ret (M.go rfl (M.done (finQ.ret [] rfl rfl rfl (by first | exact Wk.rfl | exact Wk.uncap | exact Wk.nil | exact Wk.b1 rfl | exact Wk.t2 Wk.rfl (Wk.b1 rfl)) (by repeat' (first | exact True.intro | refine ⟨⟨_, _, _, rfl, rfl, rfl, WkO.rfl⟩, ?_⟩ | refine HeapOK.acc rfl rfl ?_ | refine HeapOK.es rfl rfl ?_)))))
  · have hy' : rnewOk t X = false := by simpa using hy
    refine M.use (by first | exact True.intro | exact rfl) (New_no t htk true none X (by omega) hXok (by rw [hne]; exact hy')) [] rfl rfl rfl (by repeat' (first | exact True.intro | refine ⟨⟨_, _, _, rfl, rfl, rfl, WkO.rfl⟩, ?_⟩ | refine HeapOK.acc rfl rfl ?_ | refine HeapOK.es rfl rfl ?_)) rfl rfl ?_
    refine M.go rfl ?_
    refine M.use (by first | exact True.intro | exact rfl) (RNew_no t htk true none X (by omega) hXok hy') [] rfl rfl rfl (by repeat' (first | exact True.intro | refine ⟨⟨_, _, _, rfl, rfl, rfl, WkO.rfl⟩, ?_⟩ | refine HeapOK.acc rfl rfl ?_ | refine HeapOK.es rfl rfl ?_)) rfl rfl ?_
    refine M.go rfl ?_
    exact M.ret (M.go rfl (M.done (finQ.ret [] rfl rfl rfl (by first | exact Wk.rfl | exact Wk.uncap | exact Wk.nil | exact Wk.b1 rfl | exact Wk.t2 Wk.rfl (Wk.b1 rfl)) (by repeat' (first | exact True.intro | refine ⟨⟨_, _, _, rfl, rfl, rfl, WkO.rfl⟩, ?_⟩ | refine HeapOK.acc rfl rfl ?_ | refine HeapOK.es rfl rfl ?_)))))
end Go.Proofs.Yteegdhfekemhmaa

namespace Go.Proofs.Yteegdhfekemhmaa
open Go.RowKit Sim Go Sym
set_option maxRecDepth 100000
set_option linter.unusedVariables false
set_option linter.unusedSimpArgs false
variable {base : Nat}
def tyEnt : Ty := .st [.int .i64, .int .i64, .int .i64, .sl 1 1 (.int .u8)]
def tySnap : Ty := .st [.int .i64, .int .i64, .sl 1 8 (.int .i64), .sl 1 1 (.int .u8)]
def tyLop : Ty := .st [.int .i64, .int .i64, .sl 4 48 tyEnt, tySnap, .sl 1 1 (.int .u8)]
theorem is_ent {p : PC} (h : Is tyEnt p) : ∃ e : Ent, p = e.pc ∧ e.raw := by
  obtain ⟨l, rfl, k0⟩ := h.st
  obtain ⟨a, r1, ha, rfl, k1⟩ := k0.cons
  obtain ⟨a, rfl, a1⟩ := ha.i64
  obtain ⟨b, r2, hb, rfl, k2⟩ := k1.cons
  obtain ⟨b, rfl, b1⟩ := hb.i64
  obtain ⟨c, r3, hc, rfl, k3⟩ := k2.cons
  obtain ⟨c, rfl, c1⟩ := hc.i64
  obtain ⟨d, r4, hd, rfl, k4⟩ := k3.cons
  obtain ⟨z, d, rfl, d1, d2⟩ := hd.bytes
  obtain rfl := k4.nil
  exact ⟨⟨a, b, c, z, d, none⟩, rfl, a1, b1, c1, d2⟩
theorem is_ents {p : PC} (h : Is (.sl 4 48 tyEnt) p) : ∃ z, ∃ l : List Ent, p = .tz z 4 (entP l) none ∧ l.length ≤ 100000000000000 ∧ ∀ e ∈ l, e.raw := by
  obtain ⟨z, el, rfl, h1, h2⟩ := h.sl
  obtain ⟨l, rfl, h3⟩ := lift (fun p hp => is_ent hp) h2
  exact ⟨z, l, rfl, by simp at h1; omega, h3⟩
theorem is_snap {p : PC} (h : Is tySnap p) : ∃ s : Snp, p = s.pc ∧ s.raw ∧ s.cc = none ∧ s.dc = none := by
  obtain ⟨l, rfl, k0⟩ := h.st
  obtain ⟨a, r1, ha, rfl, k1⟩ := k0.cons
  obtain ⟨a, rfl, a1⟩ := ha.i64
  obtain ⟨b, r2, hb, rfl, k2⟩ := k1.cons
  obtain ⟨b, rfl, b1⟩ := hb.i64
  obtain ⟨c, r3, hc, rfl, k3⟩ := k2.cons
  obtain ⟨zc, c, rfl, c1, c2⟩ := hc.ints
  obtain ⟨d, r4, hd, rfl, k4⟩ := k3.cons
  obtain ⟨z, d, rfl, d1, d2⟩ := hd.bytes
  obtain rfl := k4.nil
  exact ⟨⟨a, b, zc, c, none, z, d, none⟩, rfl, ⟨a1, b1, ⟨by simp only; omega, c2⟩, d2⟩, rfl, rfl⟩
theorem is_lop {p : PC} (h : Is tyLop p) : ∃ o : LOpr, p = o.pc ∧ o.raw := by
  obtain ⟨l, rfl, k0⟩ := h.st
  obtain ⟨a, r1, ha, rfl, k1⟩ := k0.cons
  obtain ⟨a, rfl, a1⟩ := ha.i64
  obtain ⟨b, r2, hb, rfl, k2⟩ := k1.cons
  obtain ⟨b, rfl, b1⟩ := hb.i64
  obtain ⟨c, r3, hc, rfl, k3⟩ := k2.cons
  obtain ⟨zc, c, rfl, c1⟩ := is_ents hc
  obtain ⟨s, r4, hs, rfl, k4⟩ := k3.cons
  obtain ⟨s, rfl, s1, -⟩ := is_snap hs
  obtain ⟨d, r5, hd, rfl, k5⟩ := k4.cons
  obtain ⟨z, d, rfl, d1, d2⟩ := hd.bytes
  obtain rfl := k5.nil
  exact ⟨⟨a, b, zc, c, s, z, d⟩, rfl, b1, c1, s1, d2⟩
theorem LogAll_law {p0 p1 p2 : PC} (h0 : Is tySnap p0) (h1 : Is (.sl 4 48 tyEnt) p1) (h2 : Is (.sl 8 128 tyLop) p2) : CallS Try.prog base 10 [xvP p0, xvP p1, xvP p2] ⟨[], 0⟩ (.c (.p (.bool true))) ⟨[], 0⟩ := by
  obtain ⟨s, rfl, s1, -⟩ := is_snap h0
  obtain ⟨z, es, rfl, e1⟩ := is_ents h1
  obtain ⟨z2, el, rfl, g1, g2⟩ := h2.sl
  obtain ⟨ops, rfl, g3⟩ := lift (fun p hp => is_lop hp) g2
  exact LogAll_spec s s1 z es e1 z2 ops ⟨by simp at g1; omega, g3⟩
end Go.Proofs.Yteegdhfekemhmaa

namespace Go.Proofs.Yteegdhfekemhmaa
open Go.RowKit Sim Go Sym
set_option maxRecDepth 100000
set_option linter.unusedVariables false
set_option linter.unusedSimpArgs false
variable {base : Nat}
structure PMsg.raw (m : PMsg) : Prop where
  hd : ∀ n ∈ m.hd, InI64 n
  es : m.es.length ≤ 100000000000000 ∧ ∀ e ∈ m.es, e.raw
  hint : InI64 m.hint
  cf : m.cf.length ≤ 100000000000000 ∧ ∀ n ∈ m.cf, InI64 n
  d : ∀ b ∈ m.d, b < 256
  q : InI64 m.off ∧ InI64 m.sz ∧ InI64 m.ctx
theorem i64_in {n : Int} (h : I64 n) : InI64 n := ⟨h.1, by have := h.2; omega⟩
theorem in_i64 {n : Int} (h : InI64 n) : I64 n := ⟨h.1, by have := h.2; omega⟩
theorem PMsg.raw.good {m : PMsg} (h : m.raw) : m.cut.good := ⟨h.hd, ⟨by simp [PMsg.cut]; omega, fun e he => by
  obtain ⟨x, hx, rfl⟩ := List.mem_map.1 he
  have := h.es.2 x (List.mem_of_mem_take hx)
  exact ⟨i64_in this.ix, i64_in this.tm, i64_in this.kd, by simp [Ent.cutM]; omega, fun b hb => this.d b (List.mem_of_mem_take hb)⟩⟩, h.hint, ⟨by simp [PMsg.cut]; omega, fun n hn => h.cf.2 n (List.mem_of_mem_take hn)⟩, ⟨by simp [PMsg.cut]; omega, fun b hb => h.d b (List.mem_of_mem_take hb)⟩, h.q⟩
theorem PMsg.raw.nc {m : PMsg} (h : m.raw) : m.cut.nc := ⟨fun e he => by
  obtain ⟨x, hx, rfl⟩ := List.mem_map.1 he
  rfl⟩
theorem PMsg.good.rd {m : PMsg} (h : m.good) : m.rd := ⟨⟨by have := h.es.1; omega, fun e he => by
  obtain ⟨a, b, c, d, e⟩ := h.es.2 e he
  exact ⟨in_i64 a, in_i64 b, in_i64 c, by omega, e⟩⟩, by have := h.cf.1; omega, by have := h.d.1; omega, h.d.2⟩
theorem msgB_bytes {m : PMsg} (h : m.good) : Bytes (msgB m.p) := by
  refine (numsB_bytes _).app ((numB_bytes _).app ((entsB_bytes h.p.2.2.2.1).app ((flagB_bytes _).app ((numB_bytes _).app ((confB_bytes _).app ((textB_bytes (i2_bytes h.d.2)).app (numsB_bytes _)))))))
theorem msgB_len {m : PMsg} (h : m.raw) : 1 ≤ (msgB m.cut.p).length ∧ (msgB m.cut.p).length ≤ 3000 := by
  have hg := h.good
  have a1 := numsB_len m.cut.hd hg.hd
  have a2 : m.cut.hd.length = 7 := rfl
  have e1 : m.cut.es.length ≤ 8 := by simp [PMsg.cut]; omega
  have a3 : (numB (m.cut.es.length : Int)).length ≤ 10 := numB_len (by omega) (by omega)
  have a4 := (entsB_len (m.cut.es.map Ent.p) 100 (fun e he => by
    obtain ⟨x, hx, rfl⟩ := List.mem_map.1 he
    obtain ⟨q1, q2, q3, q4, q5⟩ := hg.es.2 x hx
    obtain ⟨y, hy, rfl⟩ := List.mem_map.1 hx
    exact ⟨⟨q1, q2, q3, by simp [Ent.p, i2_len]; omega, i2_bytes q5⟩, by simp [Ent.p, i2_len, Ent.cutM]; omega⟩)).2
  have a5 : (100 + 40) * (m.cut.es.map Ent.p).length ≤ (100 + 40) * 8 := Nat.mul_le_mul_left _ (by simpa using e1)
  have a6 := numB_len hg.hint.1 hg.hint.2
  have e2 : m.cut.cf.length ≤ 9 := by simp [PMsg.cut]; omega
  have a7 : (numB (m.cut.cf.length : Int)).length ≤ 10 := numB_len (by omega) (by omega)
  have a8 := (numsB_len m.cut.cf hg.cf.2).2
  have e3 : m.cut.d.length ≤ 100 := by simp [PMsg.cut]; omega
  have a9 := textB_len (xs := i2 m.cut.d) (by rw [i2_len]; omega)
  rw [i2_len] at a9
  obtain ⟨q1, q2, q3⟩ := hg.q
  have b1 := numB_len q1.1 q1.2
  have b2 := numB_len q2.1 q2.2
  have b3 := numB_len q3.1 q3.2
  have hm : msgB m.cut.p = numsB m.cut.hd ++ (numB m.cut.es.length ++ (entsB (m.cut.es.map Ent.p) ++ (flagB m.cut.ok ++ (numB m.cut.hint ++ (confB m.cut.cf ++ (textB (i2 m.cut.d) ++ (numB m.cut.off ++ (numB m.cut.sz ++ numB m.cut.ctx)))))))) := by simp [msgB, PMsg.p, numsB]
  rw [hm]
  simp only [List.length_append, confB, flagB, List.length_cons, List.length_nil]
  constructor <;> omega
/-! What is read. -/
section
attribute [local irreducible] rN rRest rBad rT rTRest rTBad rF rFRest rFBad nL nR nB eL eR eB cN cRest cBad RS.nums RS.ents RS.count RS.num RS.text RS.flag RS.conf
theorem l7_eq : ∀ l : List Int, l.length = 7 → [l.getD 0 0, l.getD 1 0, l.getD 2 0, l.getD 3 0, l.getD 4 0, l.getD 5 0, l.getD 6 0] = l := fun l h => by
  match l, h with
  | [_, _, _, _, _, _, _], _ => rfl
theorem l3_eq : ∀ l : List Int, l.length = 3 → [l.getD 0 0, l.getD 1 0, l.getD 2 0] = l := fun l h => by
  match l, h with
  | [_, _, _], _ => rfl
theorem RS.msg_eq {r : RS} (hr : r.ok) (hb : r.bad = false) : r.msg.1.p = mD r.xs ∧ r.msg.2.bad = mb15 r.xs ∧ r.msg.2.xs = mx15 r.xs := by
  obtain ⟨a1, a2, a3⟩ := r.nums_eq 7
  have o1 := RS.nums_ok hr 7
  have l7 := RS.nums_len r 7
  obtain ⟨A, hA⟩ : ∃ A, A = r.nums 7 := ⟨_, rfl⟩
  rw [← hA] at a1 a2 a3 o1 l7
  obtain ⟨c1, c2, c3⟩ := A.2.count_eq
  have o2 := o1.count
  obtain ⟨C, hC⟩ : ∃ C, C = A.2.count := ⟨_, rfl⟩
  rw [← hC] at c1 c2 c3 o2
  obtain ⟨k, hk⟩ : ∃ k, k = C.1.toNat := ⟨_, rfl⟩
  obtain ⟨e1, e2, e3⟩ := RS.ents_eq o2 k
  have o3 := RS.ents_ok o2 k
  obtain ⟨E, hE⟩ : ∃ E, E = C.2.ents k := ⟨_, rfl⟩
  rw [← hE] at e1 e2 e3 o3
  obtain ⟨f1, f2, f3⟩ := E.2.flag_eq
  have o4 := o3.flag
  obtain ⟨F, hF⟩ : ∃ F, F = E.2.flag := ⟨_, rfl⟩
  rw [← hF] at f1 f2 f3 o4
  obtain ⟨h1, h2, h3⟩ := F.2.num_eq
  have o5 := o4.num
  obtain ⟨G, hG⟩ : ∃ G, G = F.2.num := ⟨_, rfl⟩
  rw [← hG] at h1 h2 h3 o5
  obtain ⟨k1, k2, k3⟩ := G.2.conf_eq
  have o6 := o5.conf
  obtain ⟨J, hJ⟩ : ∃ J, J = G.2.conf := ⟨_, rfl⟩
  rw [← hJ] at k1 k2 k3 o6
  obtain ⟨t1, t2, t3⟩ := J.2.text_eq o6
  have tb := (RS.text_b o6).2
  obtain ⟨T, hT⟩ : ∃ T, T = J.2.text := ⟨_, rfl⟩
  rw [← hT] at t1 t2 t3 tb
  obtain ⟨q1, q2, q3⟩ := T.2.nums_eq 3
  have l3 := RS.nums_len T.2 3
  obtain ⟨W, hW⟩ : ∃ W, W = T.2.nums 3 := ⟨_, rfl⟩
  rw [← hW] at q1 q2 q3 l3
  have hm : r.msg = (⟨A.1.getD 0 0, A.1.getD 1 0, A.1.getD 2 0, A.1.getD 3 0, A.1.getD 4 0, A.1.getD 5 0, A.1.getD 6 0, true, E.1, F.1, G.1, true, J.1, T.1.1, n2 T.1.2, W.1.getD 0 0, W.1.getD 1 0, W.1.getD 2 0⟩, W.2) := by
    simp only [RS.msg, ← hA, ← hC, ← hk, ← hE, ← hF, ← hG, ← hJ, ← hT, ← hW]
  clear hA hC hE hF hG hJ hT hW o1 o2 o3 o4 o5 o6
  have x7 : A.2.xs = mx7 r.xs := by rw [a2]; rfl
  have b7 : A.2.bad = mb7 r.xs := by rw [a3, hb]; rfl
  have x8 : C.2.xs = mx8 r.xs := by rw [c2, x7]; rfl
  have b8 : C.2.bad = mb8 r.xs := by rw [c3, x7, b7]; rfl
  have hkk : k = cN (mx7 r.xs) := by rw [hk, c1, x7, Int.toNat_natCast]
  have x9 : E.2.xs = mx9 r.xs := by rw [e2, x8, hkk]; rfl
  have b9 : E.2.bad = mb9 r.xs := by rw [e3, x8, b8, hkk]; rfl
  have x10 : F.2.xs = mx10 r.xs := by rw [f2, x9]; rfl
  have b10 : F.2.bad = mb10 r.xs := by rw [f3, x9, b9]; rfl
  have x11 : G.2.xs = mx11 r.xs := by rw [h2, x10]; rfl
  have b11 : G.2.bad = mb11 r.xs := by rw [h3, x10, b10]; rfl
  have x13 : J.2.xs = mx13 r.xs := by rw [k2, x11]; rfl
  have b13 : J.2.bad = mb13 r.xs := by rw [k3, x11, b11]; rfl
  have x14 : T.2.xs = mx14 r.xs := by rw [t2, x13]; rfl
  have b14 : T.2.bad = mb14 r.xs := by rw [t3, x13, b13]; rfl
  have x15 : W.2.xs = mx15 r.xs := by rw [q2, x14]; rfl
  have b15 : W.2.bad = mb15 r.xs := by rw [q3, x14, b14]; rfl
  rw [hm]
  refine ⟨?_, b15, x15⟩
  unfold PMsg.p PMsg.hd mD
  simp only
  rw [l7_eq _ l7, l3_eq _ l3, i2_n2 tb, a1, e1, f1, h1, k1, t1, q1, x8, hkk, x9, x10, x11, x13, x14]
  rfl
end
theorem msgR_yes {z : Bool} {xs : List Int} (hl : xs.length ≤ 1000000000000) (hb : Bytes xs) (h : MOK xs) : ∃ k : PMsg, RS.msgR ⟨z, xs, false⟩ = (k, 0) ∧ k.p = mD xs := by
  have hr : (⟨z, xs, false⟩ : RS).ok := ⟨hl, hb, fun h => (by cases h), fun h => (by cases h)⟩
  obtain ⟨h1, h2, h3⟩ := RS.msg_eq hr rfl
  refine ⟨(RS.msg ⟨z, xs, false⟩).1, ?_, h1⟩
  rw [RS.msgR, h2, h3, if_pos]
  simp only at *
  rw [h.1, h.2]; rfl
theorem msgR_no {z : Bool} {xs : List Int} (hl : xs.length ≤ 1000000000000) (hb : Bytes xs) (h : ¬ MOK xs) : RS.msgR ⟨z, xs, false⟩ = (PMsg.zero, 3) := by
  have hr : (⟨z, xs, false⟩ : RS).ok := ⟨hl, hb, fun h => (by cases h), fun h => (by cases h)⟩
  obtain ⟨h1, h2, h3⟩ := RS.msg_eq hr rfl
  rw [RS.msgR, h2, h3, if_neg]
  intro hc
  simp only [Bool.and_eq_true, Bool.not_eq_true', List.isEmpty_iff] at hc
  exact h ⟨hc.1, hc.2⟩
theorem good_of {k : PMsg} {xs : List Int} (hb : Bytes xs) (hl : xs.length ≤ 3000) (h : MOK xs) (hk : k.p = mD xs) : k.good ∧ msgB k.p = xs := by
  obtain ⟨h0, h1, h2, h3, h4, h5, h6⟩ := msg_inv hb h
  have hx : msgB k.p = xs := by rw [hk]; exact h0.symm
  rw [← hk] at h1 h2 h3 h4 h5 h6
  have hlen := hl
  rw [← hx] at hlen
  have hE : ∀ e ∈ k.es, InI64 e.ix ∧ InI64 e.tm ∧ InI64 e.kd ∧ ∀ b ∈ e.d, b < 256 := fun e he => by
    obtain ⟨a, b, c, d⟩ := h2 e.p (List.mem_map_of_mem he)
    refine ⟨a, b, c, fun x hx => ?_⟩
    have := d (x : Int) (List.mem_map_of_mem hx)
    omega
  have hD : ∀ b ∈ k.d, b < 256 := fun x hx => by have := h5 (x : Int) (List.mem_map_of_mem hx); omega
  simp only [msgB, List.length_append] at hlen
  have c1 : k.p.conf = k.cf := rfl
  have c2 : k.p.data = i2 k.d := rfl
  have c3 : k.p.es = k.es.map Ent.p := rfl
  rw [c1, c2, c3] at hlen
  have d1 := (numsB_len k.cf h4).1
  have d2 : (i2 k.d).length = k.d.length := i2_len _
  have d3 : ∀ (l : List Ent), l.length ≤ (entsB (l.map Ent.p)).length ∧ ∀ e ∈ l, e.d.length ≤ (entsB (l.map Ent.p)).length := by
    intro l
    induction l with
    | nil => simp
    | cons e l ih =>
      have n1 := numB_pos e.ix
      rw [List.map_cons, entsB_cons]
      have : (enB e.p).length = (numB e.ix).length + (numB e.tm).length + (numB e.kd).length + ((numB (e.d.length : Int)).length + e.d.length) := by simp [enB, textB, Ent.p, i2_len]; omega
      refine ⟨by simp; omega, fun f hf => ?_⟩
      rw [List.length_append]
      rcases List.mem_cons.1 hf with rfl | hf
      · omega
      · have := ih.2 f hf; omega
  obtain ⟨d4, d5⟩ := d3 k.es
  simp only [confB, textB, List.length_append] at hlen
  rw [d2] at hlen
  exact ⟨⟨h1, ⟨by omega, fun e he => by
    obtain ⟨a, b, c, d⟩ := hE e he
    exact ⟨a, b, c, by have := d5 e he; omega, d⟩⟩, h3, ⟨by omega, h4⟩, ⟨by omega, hD⟩, ⟨h6 k.off (by simp [PMsg.p]), h6 k.sz (by simp [PMsg.p]), h6 k.ctx (by simp [PMsg.p])⟩⟩, hx⟩
end Go.Proofs.Yteegdhfekemhmaa

namespace Go.Proofs.Yteegdhfekemhmaa
open Go.RowKit Sim Go Sym
set_option maxRecDepth 100000
set_option linter.unusedVariables false
set_option linter.unusedSimpArgs false
variable {base : Nat}
section
variable {P : Program} {n k : Nat} {e : Env} {h : HS} {Q : QX} {K : List Fr}
theorem SOp.slOR {s : Nat} {x : LX} {lo hi : Option LX} {b m l r : Nat} {ex : List PC} (hx : xev e x = some (.c (.sl b 0 m s none))) (hl : BndX e lo 0 l) (hr : BndX e hi m r) (h1 : l ≤ r) (hb : h.get b = some (.els s ex)) (h2 : r ≤ ex.length) (hs : 0 < s) :
    SOp P n (.sl s x lo hi none) e h (.c (.sl b (l * s) (r - l) s none)) h := ⟨fun o call hw => by
  generalize ho : o.op = op' at hw
  generalize hm0 : (none : Option LX) = mx0 at hw
  cases hw with
  | sl g1 g2 g3 g4 g5 g6 =>
    rename_i t o' lo' hi' mx' e'
    subst hm0
    have h3 := BndX.bnd (n := n) g4 hl
    have h4 := BndX.bnd (n := n) g5 hr
    have h5 : bndM (toSF n e) mx' = some none := BndM.bnd (n := n) (e := e) g6 rfl
    have h6 : reach h.sh b (0 + r * s) = true := by
      simp only [reach, get_els hb, flatE_len, Nat.zero_add, Nat.ble_eq]
      exact Nat.mul_le_mul_right _ h2
    simp only [Sim.step, ho, xev_ev g1 hx, XV.sv, XC.sc, sSlice, g2, g3, h3, h4, h5]
    rw [if_pos ⟨h1, trivial, hs, fun hh => by simp at hh⟩, if_pos (.inr h6), Nat.zero_add]
    rfl⟩
end
def nlP : PC := .tz true 0 [] none
noncomputable def lDel : {F : LF // lowerF Try.prog 120 = some F} := ⟨_, rfl⟩
theorem erase_eq (l : List PC) (i : Nat) (h : i < l.length) : l.eraseIdx i = l.take i ++ l.drop (i + 1) := by rw [List.eraseIdx_eq_take_drop_succ]
theorem del_spec (l pad : List PC) (i : Nat) (hi : i < l.length) (hl : l.length ≤ 1000000) : CallS Try.prog base 120 [.c (.sl 0 0 l.length 1 none), .c (.p (.int .i64 i)), .c (.p (.int .i64 ((i : Int) + 1)))] ⟨[(0, some (.els 1 (l ++ pad)))], 1⟩ (.c (.sl 0 0 (l.length - 1) 1 none)) ⟨[(0, some (.els 1 (l.eraseIdx i ++ nlP :: pad)))], 1⟩ := by
  have hfin : ∀ (y : PC), (l.eraseIdx i ++ y :: pad).take (l.length - 1) ++ List.replicate 1 nlP ++ (l.eraseIdx i ++ y :: pad).drop (l.length - 1 + 1) = l.eraseIdx i ++ nlP :: pad := fun y => by
    have h1 : (l.eraseIdx i).length = l.length - 1 := by rw [List.length_eraseIdx]; simp [hi]
    rw [List.take_left' h1, List.drop_append, List.drop_eq_nil_of_le (by omega), h1, show l.length - 1 + 1 - (l.length - 1) = 1 by omega]
    simp
  refine CallS.of noNG lDel.2 rfl (M.start (M.go rfl ?_))
  refine M.op trivial (SOp.slOM (l := i) (r := i + 1) (c := l.length) rfl ⟨_, _, rfl, by omega, by omega⟩ ⟨_, _, rfl, by omega, by omega⟩ ⟨_, _, rfl, by omega, by simp⟩ (by omega) (by omega) (Nat.le_refl _) (by omega)) ?_
  refine M.go rfl ?_
  refine M.cond rfl (fun hn => absurd hn (by omega)) (fun _ => ?_)
  refine M.go rfl ?_
  refine M.regD (MD.go rfl ?_)
  refine MD.op trivial (SOp.slO (l := 0) (r := i) rfl rfl ⟨_, _, rfl, by omega, by omega⟩ (by omega) (by omega) (by omega)) ?_
  refine MD.go rfl ?_
  refine MD.op trivial (SOp.slO (l := i + 1) (r := l.length) rfl ⟨_, _, rfl, by omega, by omega⟩ rfl (by omega) (by omega) (by omega)) ?_
  rw [Nat.zero_mul, Nat.zero_add, Nat.sub_zero, Nat.zero_add]
  refine MD.go rfl ?_
  have hel : ((l ++ pad).drop (i + 1)).take (l.length - (i + 1)) = l.drop (i + 1) := by rw [List.drop_append_of_le_length (by omega), List.take_left' (by simp)]
  by_cases h0 : l.drop (i + 1) = []
  · have hlast : i = l.length - 1 := by have := congrArg List.length h0; simp at this; omega
    refine MD.op trivial (SOp.app0 rfl rfl (.part rfl (by simp; omega) (by rw [hel, h0])) (.inl ⟨_, _, _, _, _, rfl⟩)) ?_
    refine MD.go rfl ?_
    refine MD.nil mixed (Fnl.nodup rfl) (M.go rfl ?_)
    obtain ⟨y, hy⟩ : ∃ y, y = l[i] := ⟨_, rfl⟩
    have hX : l ++ pad = l.eraseIdx i ++ y :: pad := by
      rw [erase_eq l i hi, h0, List.append_nil, hy]
      have : l = l.take i ++ l[i] :: l.drop (i + 1) := by rw [List.getElem_cons_drop, List.take_append_drop]
      rw [h0] at this
      exact (congrArg (· ++ pad) this).trans (List.append_assoc (l.take i) [l[i]] pad)
    rw [hX]
    refine M.op trivial (SOp.slOR (l := l.length - 1) (r := l.length) rfl ⟨_, _, rfl, by omega, by omega⟩ ⟨_, _, rfl, by omega, by omega⟩ (by omega) rfl (by rw [← hX]; simp) (by omega)) ?_
    rw [show l.length - (l.length - 1) = 1 by omega]
    refine M.op trivial (SOp.clr (z := nlP) rfl rfl (by rw [← hX]; simp; omega) (by omega) rfl rfl (by omega)) ?_
    rw [hfin]
    refine M.go rfl ?_
    have hlast2 : (i : Nat) = l.length - 1 := hlast
    clear hy hX
    generalize l.eraseIdx i = E0
    subst hlast2
    exact M.ret (M.go rfl (M.done (finQ.ret [(0, 0)] rfl rfl rfl (by first | exact Wk.rfl | exact Wk.uncap | exact Wk.nil | exact Wk.b1 rfl | exact Wk.t2 Wk.rfl (Wk.b1 rfl)) (by repeat' (first | exact True.intro | refine ⟨⟨_, _, _, rfl, rfl, rfl, WkO.rfl⟩, ?_⟩ | refine HeapOK.acc rfl rfl ?_ | refine HeapOK.es rfl rfl ?_)))))
  · have hll : (l.drop (i + 1)).length = l.length - (i + 1) := by simp
    have hm2 : i + (l.length - (i + 1)) = l.length - 1 := by omega
    refine MD.op trivial (SOp.appIn rfl rfl rfl (.part (el := l.drop (i + 1)) rfl (by simp; omega) hel.symm) (by rw [hll]; simp; omega) h0 (by rw [hll]; omega)) ?_
    rw [hll, hm2]
    have hX : (l ++ pad).take i ++ l.drop (i + 1) ++ (l ++ pad).drop (l.length - 1) = l.eraseIdx i ++ l[l.length - 1] :: pad := by
      rw [erase_eq l i hi, List.take_append_of_le_length (by omega), List.drop_append_of_le_length (by omega)]
      have : l.drop (l.length - 1) = [l[l.length - 1]] := by
        rw [List.drop_eq_getElem_cons (by omega), List.drop_eq_nil_of_le (by omega)]
      rw [this]; simp
    rw [hX]
    refine MD.go rfl ?_
    refine MD.nil mixed (Fnl.nodup rfl) (M.go rfl ?_)
    have h1 : (l.eraseIdx i).length = l.length - 1 := by rw [List.length_eraseIdx]; simp [hi]
    refine M.op trivial (SOp.slOR (l := l.length - 1) (r := l.length) rfl ⟨_, _, rfl, by omega, by omega⟩ ⟨_, _, rfl, by omega, by omega⟩ (by omega) rfl (by simp [h1]; omega) (by omega)) ?_
    rw [show l.length - (l.length - 1) = 1 by omega]
    refine M.op trivial (SOp.clr (z := nlP) rfl rfl (by simp [h1]) (by omega) rfl rfl (by omega)) ?_
    rw [hfin]
    refine M.go rfl ?_
    exact M.ret (M.go rfl (M.done (finQ.ret [(0, 0)] rfl rfl rfl (by first | exact Wk.rfl | exact Wk.uncap | exact Wk.nil | exact Wk.b1 rfl | exact Wk.t2 Wk.rfl (Wk.b1 rfl)) (by repeat' (first | exact True.intro | refine ⟨⟨_, _, _, rfl, rfl, rfl, WkO.rfl⟩, ?_⟩ | refine HeapOK.acc rfl rfl ?_ | refine HeapOK.es rfl rfl ?_)))))
def pkP (xs : List Int) : PC := .tz false 1 (u8P xs) none
def hN (a : Nat) (l : List PC) (p : Nat) (ct : PC) : HS := ⟨[(a, some (.els 1 (l ++ List.replicate p nlP))), (0, some (.row [.sl a 0 l.length 1 none, .p ct] true))], a + 1⟩
def hN0 (ct : PC) : HS := ⟨[(0, some (.row [.p (.tz true 1 [] none), .p ct] true))], 1⟩
noncomputable def lPush : {F : LF // lowerF Try.prog 116 = some F} := ⟨_, rfl⟩
theorem push0_spec (x : List Int) (ct : PC) : CallS Try.prog base 116 [.c (.ptr 0 0), .c (.p (pkP x))] (hN0 ct) (.tup []) (hN 1 [pkP x] 0 ct) := by
  refine CallS.of noNG lPush.2 rfl (M.start (M.go rfl ?_))
  refine M.op trivial (SOp.appN rfl rfl (.own rfl rfl) (by simp) (by simp)) ?_
  refine M.go rfl ?_
  refine M.cond rfl (fun hn => absurd hn (by simp)) (fun _ => ?_)
  refine M.go rfl ?_
  exact M.done (finQ.normal [(0, 0), (1, 2)] rfl rfl rfl Wk.rfl (by repeat' (first | exact True.intro | refine ⟨⟨_, _, _, rfl, rfl, rfl, WkO.rfl⟩, ?_⟩ | refine HeapOK.acc rfl rfl ?_ | refine HeapOK.es rfl rfl ?_)))
def pushL (l : List PC) (b : PC) : List PC := if 500 < l.length + 1 then (l ++ [b]).eraseIdx 0 else l ++ [b]
def pushR (l : List PC) (p : Nat) : Nat := if 500 < l.length + 1 then p - 1 + 1 else p - 1
def pushA : Nat → Nat
  | 0 => 2
  | _ + 1 => 1
theorem push_spec (l : List PC) (p : Nat) (x : List Int) (ct : PC) (hl : l.length ≤ 1000) : CallS Try.prog base 116 [.c (.ptr 0 0), .c (.p (pkP x))] (hN 1 l p ct) (.tup []) (hN (pushA p) (pushL l (pkP x)) (pushR l p) ct) := by
  have hl1 : (l ++ [pkP x]).length = l.length + 1 := by simp
  refine CallS.of noNG lPush.2 rfl (M.start (M.go rfl ?_))
  cases p with
  | zero =>
    simp only [hN, List.replicate_zero, List.append_nil]
    refine M.op trivial (SOp.appO rfl rfl rfl rfl (.own rfl rfl) (by simp) (by simp; omega)) ?_
    rw [show ([pkP x] : List PC).length = 1 from rfl]
    refine M.go rfl ?_
    refine M.cond rfl (fun h5 => ?_) (fun h5 => ?_)
    · have hL : pushL l (pkP x) = (l ++ [pkP x]).eraseIdx 0 := if_pos (by omega)
      have hR : pushR l 0 = 1 := if_pos (by omega)
      rw [hL, hR]
      have D := del_spec (base := base) (l ++ [pkP x]) [] 0 (by omega) (by omega)
      have he : ((l ++ [pkP x]).eraseIdx 0).length = l.length := by rw [List.length_eraseIdx, if_pos (by omega), hl1]; rfl
      rw [hl1, List.append_nil, Nat.add_sub_cancel] at D
      rw [he]
      refine M.go rfl ?_
      refine M.use trivial D [(0, 3)] rfl rfl rfl (by repeat' (first | exact True.intro | refine ⟨⟨_, _, _, rfl, rfl, rfl, WkO.rfl⟩, ?_⟩ | refine HeapOK.acc rfl rfl ?_ | refine HeapOK.es rfl rfl ?_)) rfl rfl ?_
      refine M.go rfl ?_
      exact M.done (finQ.normal [(0, 0), (1, 1), (2, 3)] rfl rfl rfl Wk.rfl (by repeat' (first | exact True.intro | refine ⟨⟨_, _, _, rfl, rfl, rfl, WkO.rfl⟩, ?_⟩ | refine HeapOK.acc rfl rfl ?_ | refine HeapOK.es rfl rfl ?_)))
    · have hL : pushL l (pkP x) = l ++ [pkP x] := if_neg (by omega)
      have hR : pushR l 0 = 0 := if_neg (by omega)
      rw [hL, hR]
      refine M.go rfl ?_
      simp only [List.replicate_zero, List.append_nil, hl1]
      exact M.done (finQ.normal [(0, 0), (1, 1), (2, 3)] rfl rfl rfl Wk.rfl (by repeat' (first | exact True.intro | refine ⟨⟨_, _, _, rfl, rfl, rfl, WkO.rfl⟩, ?_⟩ | refine HeapOK.acc rfl rfl ?_ | refine HeapOK.es rfl rfl ?_)))
  | succ p =>
    have hpad : l ++ List.replicate (p + 1) nlP = l ++ nlP :: List.replicate p nlP := by rw [List.replicate_succ]
    have hX : (l ++ nlP :: List.replicate p nlP).take l.length ++ [pkP x] ++ (l ++ nlP :: List.replicate p nlP).drop (l.length + 1) = (l ++ [pkP x]) ++ List.replicate p nlP := by
      rw [List.take_left' rfl, List.drop_append, List.drop_eq_nil_of_le (by omega), show l.length + 1 - l.length = 1 by omega]
      rfl
    simp only [hN, hpad]
    refine M.op trivial (SOp.appIn rfl rfl rfl (.own rfl rfl) (by simp) (by simp) (by simp; omega)) ?_
    rw [show ([pkP x] : List PC).length = 1 from rfl, hX]
    refine M.go rfl ?_
    refine M.cond rfl (fun h5 => ?_) (fun h5 => ?_)
    · have hL : pushL l (pkP x) = (l ++ [pkP x]).eraseIdx 0 := if_pos (by omega)
      have hR : pushR l (p + 1) = p + 1 := if_pos (by omega)
      rw [hL, hR]
      have D := del_spec (base := base) (l ++ [pkP x]) (List.replicate p nlP) 0 (by omega) (by omega)
      have he : ((l ++ [pkP x]).eraseIdx 0).length = l.length := by rw [List.length_eraseIdx, if_pos (by omega), hl1]; rfl
      rw [hl1, Nat.add_sub_cancel] at D
      rw [he]
      refine M.go rfl ?_
      refine M.use trivial D [(0, 1)] rfl rfl rfl (by repeat' (first | exact True.intro | refine ⟨⟨_, _, _, rfl, rfl, rfl, WkO.rfl⟩, ?_⟩ | refine HeapOK.acc rfl rfl ?_ | refine HeapOK.es rfl rfl ?_)) rfl rfl ?_
      refine M.go rfl ?_
      exact M.done (finQ.normal [(0, 0), (1, 1)] rfl rfl rfl Wk.rfl (by repeat' (first | exact True.intro | refine ⟨⟨_, _, _, rfl, rfl, rfl, WkO.rfl⟩, ?_⟩ | refine HeapOK.acc rfl rfl ?_ | refine HeapOK.es rfl rfl ?_)))
    · have hL : pushL l (pkP x) = l ++ [pkP x] := if_neg (by omega)
      have hR : pushR l (p + 1) = p := if_neg (by omega)
      rw [hL, hR]
      refine M.go rfl ?_
      rw [hl1]
      exact M.done (finQ.normal [(0, 0), (1, 1)] rfl rfl rfl Wk.rfl (by repeat' (first | exact True.intro | refine ⟨⟨_, _, _, rfl, rfl, rfl, WkO.rfl⟩, ?_⟩ | refine HeapOK.acc rfl rfl ?_ | refine HeapOK.es rfl rfl ?_)))
end Go.Proofs.Yteegdhfekemhmaa
