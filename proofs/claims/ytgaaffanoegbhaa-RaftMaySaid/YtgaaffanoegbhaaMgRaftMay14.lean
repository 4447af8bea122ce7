/- Texts of this claim, several in one: RM2, RM3, RM4. -/
import Derived.Test.YtgaaffanoegbhaaMgRaftMay10
import Derived.Test.YtgaaffanoegbhaaMgRaftMay12
import Derived.Test.YtgaaffanoegbhaaMgRaftMay13
import Derived.Test.YtgaaffanoegbhaaMgRaftMay9
/- Messages as data with names; delphilaw17.CutMsg (the same as in SB4, SB6, without bin). -/
namespace Go.Proofs.Ytgaaffanoegbhaa
open Go.RowKit Sim Go Sym
set_option maxRecDepth 100000
set_option linter.unusedVariables false
set_option linter.unusedSimpArgs false
variable {base : Nat}
structure Ent where
  ix : Int
  tm : Int
  kd : Int
  z : Bool
  d : List Nat
  c : Option Nat
def Ent.cs (e : Ent) : List PC := [.int .i64 e.ix, .int .i64 e.tm, .int .i64 e.kd, .tz e.z 1 (byP e.d) e.c]
def Ent.pc (e : Ent) : PC := .agg e.cs
def entP (l : List Ent) : List PC := l.map Ent.pc
def I64 (n : Int) : Prop := -9223372036854775808 ≤ n ∧ n ≤ 9223372036854775807
def okB (l : List Nat) : Prop := l.length ≤ 100000000000 ∧ ∀ b ∈ l, b < 256
structure Ent.ok (e : Ent) : Prop where
  ix : I64 e.ix
  tm : I64 e.tm
  kd : I64 e.kd
  d : okB e.d
theorem entP_at (pre rest : List Ent) (e : Ent) : (entP (pre ++ e :: rest))[((pre.length : Int)).toNat]? = some e.pc := at_app _ _ _ _
theorem entP_len (l : List Ent) : (entP l).length = l.length := by simp [entP]
structure PMsg where
  kd : Int
  fr : Int
  to : Int
  tm : Int
  ix : Int
  lt : Int
  cm : Int
  ez : Bool
  es : List Ent
  ok : Bool
  hint : Int
  cz : Bool
  cf : List Int
  dz : Bool
  d : List Nat
  off : Int
  sz : Int
  ctx : Int
def PMsg.cs (m : PMsg) : List PC := [.int .i64 m.kd, .int .i64 m.fr, .int .i64 m.to, .int .i64 m.tm, .int .i64 m.ix, .int .i64 m.lt, .int .i64 m.cm, .tz m.ez 4 (entP m.es) none, .bs m.ok, .int .i64 m.hint, .tz m.cz 1 (inP m.cf) none, .tz m.dz 1 (byP m.d) none, .int .i64 m.off, .int .i64 m.sz, .int .i64 m.ctx]
def PMsg.pc (m : PMsg) : PC := .agg m.cs
def PMsg.v (m : PMsg) : XV := .agg (m.cs.map XC.p)
def zrow : List XC := [.p (.int .i64 0), .p (.int .i64 0), .p (.int .i64 0), .p (.int .i64 0), .p (.int .i64 0), .p (.int .i64 0), .p (.int .i64 0), .p (.tz true 0 [] none), .p (.bool false), .p (.int .i64 0), .p (.tz true 0 [] none), .p (.tz true 0 [] none), .p (.int .i64 0), .p (.int .i64 0), .p (.int .i64 0)]
noncomputable def lShort : {F : LF // lowerF Try.prog 64 = some F} := ⟨_, rfl⟩
theorem short_spec (z : Bool) (el : List PC) (c : Option Nat) (n : Nat) (hn : 0 < n) : CallS Try.prog base 64 [.c (.p (.tz z 1 el c)), .c (.p (.int .i64 n))] ⟨[], 0⟩ (.c (.p (.tz z 1 (el.take n) none))) ⟨[], 0⟩ := by
  refine CallS.of noNG lShort.2 rfl (M.start (M.go rfl ?_))
  refine M.cond rfl (fun h => ?_) (fun h => ?_)
  · refine M.go rfl ?_
    refine M.op trivial (SOp.sl (r := n) rfl rfl ⟨_, _, rfl, by omega, by omega⟩ (Nat.zero_le _) (by omega)) ?_
    refine M.go rfl ?_
    have h1 : (el.drop 0).take (n - 0) = el.take n := by simp
    rw [h1]
    have h2 : el.take n ≠ [] := by
      intro e
      have := congrArg List.length e
      simp at this
      rcases this with h3 | h3
      · omega
      · subst h3; simp at h; omega
    exact M.ret (M.go rfl (M.done (finQ.ret [] rfl rfl rfl (Wk.trans Wk.uncap (Wk.some h2)) (by repeat' (first | exact True.intro | refine ⟨⟨_, _, _, rfl, rfl, rfl, WkO.rfl⟩, ?_⟩ | refine HeapOK.acc rfl rfl ?_ | refine HeapOK.es rfl rfl ?_)))))
  · refine M.go rfl ?_
    rw [List.take_of_length_le (by omega)]
    exact M.ret (M.go rfl (M.done (finQ.ret [] rfl rfl rfl (by first | exact Wk.rfl | exact Wk.uncap | exact Wk.nil | exact Wk.b1 rfl | exact Wk.t2 Wk.rfl (Wk.b1 rfl)) (by repeat' (first | exact True.intro | refine ⟨⟨_, _, _, rfl, rfl, rfl, WkO.rfl⟩, ?_⟩ | refine HeapOK.acc rfl rfl ?_ | refine HeapOK.es rfl rfl ?_)))))
/-! CutMsg. -/
noncomputable def lCm : {F : LF // lowerF Try.prog 40 = some F} := ⟨_, rfl⟩
def Ent.cutM (e : Ent) : Ent := ⟨e.ix, e.tm, e.kd, e.z, e.d.take 100, none⟩
def PMsg.cut (m : PMsg) : PMsg := ⟨m.kd, m.fr, m.to, m.tm, m.ix, m.lt, m.cm, true, (m.es.take 8).map Ent.cutM, m.ok, m.hint, m.cz, m.cf.take 9, m.dz, m.d.take 100, m.off, m.sz, m.ctx⟩
def rowM (m : PMsg) (x y : XC) : List XC := [.p (.int .i64 m.kd), .p (.int .i64 m.fr), .p (.int .i64 m.to), .p (.int .i64 m.tm), .p (.int .i64 m.ix), .p (.int .i64 m.lt), .p (.int .i64 m.cm), x, .p (.bs m.ok), .p (.int .i64 m.hint), y, .p (.tz m.dz 1 (byP m.d) none), .p (.int .i64 m.off), .p (.int .i64 m.sz), .p (.int .i64 m.ctx)]
theorem cm_loop (m : PMsg) (z : Bool) (y : XC) (l : List Ent) (hl : l.length ≤ 8) (Q : QX) (hq : Q (.exit 0) [(1, .c (.ptr 0 0)), (2, .c (.ptr 1 0)), (3, accV 2 4 (entP (l.map Ent.cutM)))] ⟨[(2, accO 4 (entP (l.map Ent.cutM))), (1, some (.row zrow true)), (0, some (.row (rowM m (.p (.tz z 4 (entP l) none)) (.p (.tz m.cz 1 (inP m.cf) none))) true))], 3⟩) :
    ∀ (rest pre : List Ent), l = pre ++ rest → XH Try.prog base lCm.1.n 0 (lCm.1.c.lp 0) [(1, .c (.ptr 0 0)), (2, .c (.ptr 1 0)), (4, .c (.p (.int .i64 pre.length))), (3, accV 2 4 (entP (pre.map Ent.cutM)))] ⟨[(2, accO 4 (entP (pre.map Ent.cutM))), (1, some (.row zrow true)), (0, some (.row (rowM m (.p (.tz z 4 (entP l) none)) (.p (.tz m.cz 1 (inP m.cf) none))) true))], 3⟩ Q := by
  intro rest
  induction rest with
  | nil =>
    intro pre hp
    simp at hp
    subst hp
    refine M.round (M.go rfl ?_)
    refine M.cond rfl (fun hc => absurd hc (by rw [entP_len]; omega)) (fun hc => ?_)
    refine M.ren [(0, 0), (1, 1), (2, 2)] ?_ trivial rfl (by repeat' (first | exact True.intro | refine ⟨⟨_, _, rfl, rfl, Wk.rfl⟩, ?_⟩ | refine ⟨⟨_, _, accV_ren rfl, rfl, Wk.rfl⟩, ?_⟩ | refine ⟨⟨_, _, accV_ren rfl, rfl, Wk.acc0⟩, ?_⟩ | refine ⟨⟨_, _, rfl, rfl, Wk.uncap⟩, ?_⟩ | refine ⟨⟨_, _, rfl, rfl, Wk.nil⟩, ?_⟩)) (by repeat' (first | exact True.intro | refine ⟨⟨_, _, _, rfl, rfl, rfl, WkO.rfl⟩, ?_⟩ | refine HeapOK.acc rfl rfl ?_ | refine HeapOK.es rfl rfl ?_)) (e' := [(1, .c (.ptr 0 0)), (2, .c (.ptr 1 0)), (3, accV 2 4 (entP (l.map Ent.cutM)))]) (h' := ⟨[(2, accO 4 (entP (l.map Ent.cutM))), (1, some (.row zrow true)), (0, some (.row (rowM m (.p (.tz z 4 (entP l) none)) (.p (.tz m.cz 1 (inP m.cf) none))) true))], 3⟩)
    exact M.exit (M.go rfl (M.done hq))
  | cons e rest ih =>
    intro pre hp
    have hlen : (entP l).length = pre.length + (rest.length + 1) := by rw [hp]; simp [entP]
    have hu : (entP l)[((pre.length : Int)).toNat]? = some e.pc := by rw [hp]; exact at_app _ _ _ _
    have hll : pre.length < 8 := by rw [hp] at hl; simp at hl; omega
    refine M.round (M.go rfl ?_)
    refine M.cond rfl (fun hc => ?_) (fun hc => absurd (by omega) hc)
    refine M.go rfl ?_
    refine M.op trivial (SOp.ia rfl rfl (by omega) hu) ?_
    refine M.op trivial (SOp.ldne rfl hu rfl rfl rfl) ?_
    refine M.go rfl ?_
    refine M.use0 trivial (short_spec e.z (byP e.d) e.c 100 (by omega)) rfl rfl rfl ?_
    refine M.go rfl ?_
    rw [show (byP e.d).take 100 = byP (e.d.take 100) by simp [byP, List.map_take]]
    have hla : (entP (pre.map Ent.cutM)).length = pre.length := by simp [entP]
    refine M.acc trivial rfl rfl rfl (.own rfl rfl) (by simp) (by rw [hla]; simp; omega) ?_
    refine M.go rfl ?_
    have hw2 : IntKind.i64.wrap ((pre.length : Int) + 1) = ((pre ++ [e]).length : Int) := by rw [wr64 (by omega) (by omega)]; simp
    rw [hw2]
    have ih' := ih (pre ++ [e]) (by rw [hp]; simp)
    rw [show entP ((pre ++ [e]).map Ent.cutM) = entP (pre.map Ent.cutM) ++ [e.cutM.pc] by simp [entP]] at ih'
    exact M.again (XH.ren [(0, 0), (1, 1), (2, 5)] ih' rfl (by repeat' (first | exact True.intro | refine ⟨⟨_, _, rfl, rfl, Wk.rfl⟩, ?_⟩ | refine ⟨⟨_, _, accV_ren rfl, rfl, Wk.rfl⟩, ?_⟩ | refine ⟨⟨_, _, accV_ren rfl, rfl, Wk.acc0⟩, ?_⟩ | refine ⟨⟨_, _, rfl, rfl, Wk.uncap⟩, ?_⟩ | refine ⟨⟨_, _, rfl, rfl, Wk.nil⟩, ?_⟩)) (by repeat' (first | exact True.intro | refine ⟨⟨_, _, _, rfl, rfl, rfl, WkO.rfl⟩, ?_⟩ | refine HeapOK.acc rfl rfl ?_ | refine HeapOK.es rfl rfl ?_)))
theorem CutMsg_spec (m : PMsg) (hl : m.es.length ≤ 100000000000000) (hc : m.cf.length ≤ 100000000000000) : CallS Try.prog base 40 [m.v] ⟨[], 0⟩ m.cut.v ⟨[], 0⟩ := by
  refine CallS.of noNG lCm.2 rfl (M.start (M.go rfl ?_))
  have hil : (inP m.cf).length = m.cf.length := by simp [inP]
  obtain ⟨l, hle⟩ : ∃ l, l = m.es.take 8 := ⟨_, rfl⟩
  have hll : l.length ≤ 8 := by rw [hle]; simp; omega
  refine M.midV [(1, .c (.ptr 0 0)), (2, .c (.ptr 1 0))] ⟨[(1, some (.row zrow true)), (0, some (.row (rowM m (.p (.tz m.ez 4 (entP l) none)) (.p (.tz m.cz 1 (inP m.cf) none))) true))], 2⟩ ?_ ?_
  · refine M.cond rfl (fun h => ?_) (fun h => ?_)
    · rw [entP_len] at h
      refine M.go rfl ?_
      refine M.op trivial (SOp.sl (l := 0) (r := 8) rfl rfl ⟨_, _, rfl, by omega, rfl⟩ (by omega) (by rw [entP_len]; omega)) ?_
      rw [show ((entP m.es).drop 0).take (8 - 0) = entP l by rw [hle]; simp [entP, List.map_take]]
      have hne : entP l ≠ [] := by intro e; have := congrArg List.length e; rw [entP_len, hle, List.length_take, List.length_nil] at this; omega
      refine M.go rfl ?_
      refine M.done ⟨rfl, ?_⟩
      exact Sh.ren [(0, 0), (1, 1)] rfl (by repeat' (first | exact True.intro | refine ⟨⟨_, _, rfl, rfl, Wk.rfl⟩, ?_⟩ | refine ⟨⟨_, _, accV_ren rfl, rfl, Wk.rfl⟩, ?_⟩ | refine ⟨⟨_, _, accV_ren rfl, rfl, Wk.acc0⟩, ?_⟩ | refine ⟨⟨_, _, rfl, rfl, Wk.uncap⟩, ?_⟩ | refine ⟨⟨_, _, rfl, rfl, Wk.nil⟩, ?_⟩)) ⟨⟨_, _, _, rfl, rfl, rfl, WkO.rfl⟩, ⟨_, _, _, rfl, rfl, rfl, WkO.row ⟨Wk.rfl, Wk.rfl, Wk.rfl, Wk.rfl, Wk.rfl, Wk.rfl, Wk.rfl, Wk.some hne, Wk.rfl, Wk.rfl, Wk.rfl, Wk.rfl, Wk.rfl, Wk.rfl, Wk.rfl, trivial⟩⟩, trivial⟩
    · rw [entP_len] at h
      refine M.go rfl ?_
      refine M.done ⟨rfl, ?_⟩
      rw [hle, List.take_of_length_le (by omega)]
      exact Sh.ren [(0, 0), (1, 1)] rfl (by repeat' (first | exact True.intro | refine ⟨⟨_, _, rfl, rfl, Wk.rfl⟩, ?_⟩ | refine ⟨⟨_, _, accV_ren rfl, rfl, Wk.rfl⟩, ?_⟩ | refine ⟨⟨_, _, accV_ren rfl, rfl, Wk.acc0⟩, ?_⟩ | refine ⟨⟨_, _, rfl, rfl, Wk.uncap⟩, ?_⟩ | refine ⟨⟨_, _, rfl, rfl, Wk.nil⟩, ?_⟩)) (by repeat' (first | exact True.intro | refine ⟨⟨_, _, _, rfl, rfl, rfl, WkO.rfl⟩, ?_⟩ | refine HeapOK.acc rfl rfl ?_ | refine HeapOK.es rfl rfl ?_))
  · refine M.go rfl ?_
    refine M.loop (XH.ren [(0, 0), (1, 1), (2, 2)] (cm_loop m m.ez (.p (.tz m.cz 1 (inP m.cf) none)) l hll _ ?_ l [] rfl) rfl (by repeat' (first | exact True.intro | refine ⟨⟨_, _, rfl, rfl, Wk.rfl⟩, ?_⟩ | refine ⟨⟨_, _, accV_ren rfl, rfl, Wk.rfl⟩, ?_⟩ | refine ⟨⟨_, _, accV_ren rfl, rfl, Wk.acc0⟩, ?_⟩ | refine ⟨⟨_, _, rfl, rfl, Wk.uncap⟩, ?_⟩ | refine ⟨⟨_, _, rfl, rfl, Wk.nil⟩, ?_⟩)) (by repeat' (first | exact True.intro | refine ⟨⟨_, _, _, rfl, rfl, rfl, WkO.rfl⟩, ?_⟩ | refine HeapOK.acc rfl rfl ?_ | refine HeapOK.es rfl rfl ?_)))
    refine M.q (M.goN 2 rfl ?_)
    refine M.accF (i := 3) rfl rfl ?_
    refine M.go rfl ?_
    refine M.midV [(1, .c (.ptr 0 0)), (2, .c (.ptr 1 0))] ⟨[(1, some (.row zrow true)), (0, some (.row (rowM m (.p (.tz true 4 (entP (l.map Ent.cutM)) none)) (.p (.tz m.cz 1 (inP (m.cf.take 9)) none))) true))], 2⟩ ?_ ?_
    · refine M.cond rfl (fun h => ?_) (fun h => ?_)
      · rw [hil] at h
        refine M.go rfl ?_
        refine M.op trivial (SOp.sl (l := 0) (r := 9) rfl rfl ⟨_, _, rfl, by omega, rfl⟩ (by omega) (by rw [hil]; omega)) ?_
        rw [show ((inP m.cf).drop 0).take (9 - 0) = inP (m.cf.take 9) by simp [inP, List.map_take]]
        have hne : inP (m.cf.take 9) ≠ [] := by intro e; have := congrArg List.length e; rw [inP, List.length_map, List.length_take, List.length_nil] at this; omega
        refine M.go rfl ?_
        refine M.done ⟨rfl, ?_⟩
        exact Sh.ren [(0, 0), (1, 1)] rfl (by repeat' (first | exact True.intro | refine ⟨⟨_, _, rfl, rfl, Wk.rfl⟩, ?_⟩ | refine ⟨⟨_, _, accV_ren rfl, rfl, Wk.rfl⟩, ?_⟩ | refine ⟨⟨_, _, accV_ren rfl, rfl, Wk.acc0⟩, ?_⟩ | refine ⟨⟨_, _, rfl, rfl, Wk.uncap⟩, ?_⟩ | refine ⟨⟨_, _, rfl, rfl, Wk.nil⟩, ?_⟩)) ⟨⟨_, _, _, rfl, rfl, rfl, WkO.rfl⟩, ⟨_, _, _, rfl, rfl, rfl, WkO.row ⟨Wk.rfl, Wk.rfl, Wk.rfl, Wk.rfl, Wk.rfl, Wk.rfl, Wk.rfl, Wk.rfl, Wk.rfl, Wk.rfl, Wk.some hne, Wk.rfl, Wk.rfl, Wk.rfl, Wk.rfl, trivial⟩⟩, trivial⟩
      · rw [hil] at h
        refine M.go rfl ?_
        refine M.done ⟨rfl, ?_⟩
        rw [List.take_of_length_le (by omega)]
        exact Sh.ren [(0, 0), (1, 1)] rfl (by repeat' (first | exact True.intro | refine ⟨⟨_, _, rfl, rfl, Wk.rfl⟩, ?_⟩ | refine ⟨⟨_, _, accV_ren rfl, rfl, Wk.rfl⟩, ?_⟩ | refine ⟨⟨_, _, accV_ren rfl, rfl, Wk.acc0⟩, ?_⟩ | refine ⟨⟨_, _, rfl, rfl, Wk.uncap⟩, ?_⟩ | refine ⟨⟨_, _, rfl, rfl, Wk.nil⟩, ?_⟩)) (by repeat' (first | exact True.intro | refine ⟨⟨_, _, _, rfl, rfl, rfl, WkO.rfl⟩, ?_⟩ | refine HeapOK.acc rfl rfl ?_ | refine HeapOK.es rfl rfl ?_))
    · refine M.go rfl ?_
      refine M.use0 trivial (short_spec m.dz (byP m.d) none 100 (by omega)) rfl rfl rfl ?_
      refine M.go rfl ?_
      rw [show (byP m.d).take 100 = byP (m.d.take 100) by simp [byP, List.map_take], hle]
      exact M.ret (M.go rfl (M.done (finQ.ret [] rfl rfl rfl (by first | exact Wk.rfl | exact Wk.uncap | exact Wk.nil | exact Wk.b1 rfl | exact Wk.t2 Wk.rfl (Wk.b1 rfl)) (by repeat' (first | exact True.intro | refine ⟨⟨_, _, _, rfl, rfl, rfl, WkO.rfl⟩, ?_⟩ | refine HeapOK.acc rfl rfl ?_ | refine HeapOK.es rfl rfl ?_)))))
structure Ent.raw (e : Ent) : Prop where
  ix : I64 e.ix
  tm : I64 e.tm
  kd : I64 e.kd
  d : ∀ b ∈ e.d, b < 256
def tyEnt : Ty := .st [.int .i64, .int .i64, .int .i64, .sl 1 1 (.int .u8)]
theorem is_ent {p : PC} (h : Is tyEnt p) : ∃ e : Ent, p = e.pc ∧ e.raw := by
  obtain ⟨l, rfl, k0⟩ := h.st
  obtain ⟨a, r1, ha, rfl, k1⟩ := k0.cons
  obtain ⟨a, rfl, a1⟩ := ha.i64
  obtain ⟨b, r2, hb, rfl, k2⟩ := k1.cons
  obtain ⟨b, rfl, b1⟩ := hb.i64
  obtain ⟨c, r3, hc, rfl, k3⟩ := k2.cons
  obtain ⟨c, rfl, c1⟩ := hc.i64
  obtain ⟨d, r4, hd, rfl, k4⟩ := k3.cons
  obtain ⟨z, d, rfl, d1, d2⟩ := hd.bytes
  obtain rfl := k4.nil
  exact ⟨⟨a, b, c, z, d, none⟩, rfl, a1, b1, c1, d2⟩
theorem is_ents {p : PC} (h : Is (.sl 4 48 tyEnt) p) : ∃ z, ∃ l : List Ent, p = .tz z 4 (entP l) none ∧ l.length ≤ 100000000000000 ∧ ∀ e ∈ l, e.raw := by
  obtain ⟨z, el, rfl, h1, h2⟩ := h.sl
  obtain ⟨l, rfl, h3⟩ := lift (fun p hp => is_ent hp) h2
  exact ⟨z, l, rfl, by simp at h1; omega, h3⟩
structure PMsg.raw (m : PMsg) : Prop where
  n : I64 m.kd ∧ I64 m.fr ∧ I64 m.to ∧ I64 m.tm ∧ I64 m.ix ∧ I64 m.lt ∧ I64 m.cm
  es : m.es.length ≤ 100000000000000 ∧ ∀ e ∈ m.es, e.raw
  cf : m.cf.length ≤ 100000000000000
  d : ∀ b ∈ m.d, b < 256
def tyMsg : Ty := .st [.int .i64, .int .i64, .int .i64, .int .i64, .int .i64, .int .i64, .int .i64, .sl 4 48 tyEnt, .bool, .int .i64, .sl 1 8 (.int .i64), .sl 1 1 (.int .u8), .int .i64, .int .i64, .int .i64]
theorem is_msg {p : PC} (h : Is tyMsg p) : ∃ m : PMsg, p = m.pc ∧ m.raw := by
  obtain ⟨l, rfl, k0⟩ := h.st
  obtain ⟨a0, r1, h0, rfl, k1⟩ := k0.cons
  obtain ⟨a0, rfl, b0⟩ := h0.i64
  obtain ⟨a1, r2, h1, rfl, k2⟩ := k1.cons
  obtain ⟨a1, rfl, b1⟩ := h1.i64
  obtain ⟨a2, r3, h2, rfl, k3⟩ := k2.cons
  obtain ⟨a2, rfl, b2⟩ := h2.i64
  obtain ⟨a3, r4, h3, rfl, k4⟩ := k3.cons
  obtain ⟨a3, rfl, b3⟩ := h3.i64
  obtain ⟨a4, r5, h4, rfl, k5⟩ := k4.cons
  obtain ⟨a4, rfl, b4⟩ := h4.i64
  obtain ⟨a5, r6, h5, rfl, k6⟩ := k5.cons
  obtain ⟨a5, rfl, b5⟩ := h5.i64
  obtain ⟨a6, r7, h6, rfl, k7⟩ := k6.cons
  obtain ⟨a6, rfl, b6⟩ := h6.i64
  obtain ⟨a7, r8, h7, rfl, k8⟩ := k7.cons
  obtain ⟨ez, es, rfl, b7⟩ := is_ents h7
  obtain ⟨a8, r9, h8, rfl, k9⟩ := k8.cons
  obtain ⟨ok, rfl⟩ := h8.bool
  obtain ⟨a9, r10, h9, rfl, k10⟩ := k9.cons
  obtain ⟨hint, rfl, b9⟩ := h9.i64
  obtain ⟨a10, r11, h10, rfl, k11⟩ := k10.cons
  obtain ⟨cz, cf, rfl, c1, c2⟩ := h10.ints
  obtain ⟨a11, r12, h11, rfl, k12⟩ := k11.cons
  obtain ⟨dz, d, rfl, d1, d2⟩ := h11.bytes
  obtain ⟨a12, r13, h12, rfl, k13⟩ := k12.cons
  obtain ⟨off, rfl, b12⟩ := h12.i64
  obtain ⟨a13, r14, h13, rfl, k14⟩ := k13.cons
  obtain ⟨sz, rfl, b13⟩ := h13.i64
  obtain ⟨a14, r15, h14, rfl, k15⟩ := k14.cons
  obtain ⟨ctx, rfl, b14⟩ := h14.i64
  obtain rfl := k15.nil
  exact ⟨⟨a0, a1, a2, a3, a4, a5, a6, ez, es, ok, hint, cz, cf, dz, d, off, sz, ctx⟩, rfl, ⟨b0, b1, b2, b3, b4, b5, b6⟩, b7, by simp only; omega, d2⟩
end Go.Proofs.Ytgaaffanoegbhaa

/- raft.entries, delphiref22.Good over values with names. -/
namespace Go.Proofs.Ytgaaffanoegbhaa
open Go.RowKit Sim Go Sym
set_option maxRecDepth 100000
set_option linter.unusedVariables false
set_option linter.unusedSimpArgs false
variable {base : Nat}
def eOK (tm ix lt : Int) (e : Ent) : Prop := e.ix = ix + 1 ∧ lt ≤ e.tm ∧ e.tm ≤ tm ∧ 1 ≤ e.kd ∧ e.kd ≤ 3 ∧ (e.kd = 3 → selI (nI e.d) ≠ [])
def goodE (tm : Int) : Int → Int → List Ent → Prop
  | _, _, [] => True
  | ix, lt, e :: l => eOK tm ix lt e ∧ goodE tm (ix + 1) e.tm l
def gOK (ix lt : Int) (e : Ent) : Prop := e.ix = ix + 1 ∧ 1 ≤ e.tm ∧ lt ≤ e.tm ∧ 1 ≤ e.kd ∧ e.kd ≤ 3 ∧ (e.kd = 3 → selI (nI e.d) ≠ [])
def goodR : Int → Int → List Ent → Prop
  | _, _, [] => True
  | ix, lt, e :: l => gOK ix lt e ∧ goodR (ix + 1) e.tm l
/-- An entry that was cut. -/
structure Ent.sm (e : Ent) : Prop where
  d : okY e.d
theorem good_eq (tm : Int) : ∀ (l : List Ent) (ix lt : Int), goodE tm ix (max lt 1) l ↔ goodR ix lt l ∧ ∀ e ∈ l, e.tm ≤ tm ∧ (e.kd = 3 → selI (nI e.d) ≠ [])
  | [], ix, lt => by simp [goodE, goodR]
  | e :: l, ix, lt => by
    simp only [goodE, goodR, eOK, gOK, List.mem_cons, forall_eq_or_imp]
    constructor
    · rintro ⟨⟨h1, h2, h3, h4, h5, h6⟩, h7⟩
      have h8 : max e.tm 1 = e.tm := by omega
      rw [← h8] at h7
      obtain ⟨h9, h10⟩ := (good_eq tm l _ _).1 h7
      exact ⟨⟨⟨h1, by omega, by omega, h4, h5, h6⟩, h9⟩, ⟨h3, h6⟩, h10⟩
    · rintro ⟨⟨⟨h1, h2, h3, h4, h5, h6⟩, h9⟩, ⟨h7, _⟩, h10⟩
      have h8 : max e.tm 1 = e.tm := by omega
      refine ⟨⟨h1, by omega, h7, h4, h5, h6⟩, ?_⟩
      rw [← h8]
      exact (good_eq tm l _ _).2 ⟨h9, h10⟩
theorem emp7 {l : List Int} (h : (true && (inP l).isEmpty) = true) : l = [] := by
  cases l with
  | nil => rfl
  | cons a l => cases h
noncomputable def lRen : {F : LF // lowerF Try.prog 67 = some F} := ⟨_, rfl⟩
def hRe (m : PMsg) : HS := ⟨[(0, some (.row (m.cs.map XC.p) true))], 1⟩
theorem re_loop (m : PMsg) (h8 : m.es.length ≤ 8) (hsm : ∀ e ∈ m.es, e.sm) (hix : 0 ≤ m.ix ∧ m.ix ≤ 1125899906842624) (Q : QX) (hq : goodE m.tm m.ix (max m.lt 1) m.es → Q (.exit 0) [(1, .c (.ptr 0 0))] (hRe m)) (hr : ¬ goodE m.tm m.ix (max m.lt 1) m.es → Q .ret [(2, .c (.p (.bool false)))] ⟨[], 0⟩) :
    ∀ (rest pre : List Ent) (t i : Int), m.es = pre ++ rest → i = m.ix + pre.length → (goodE m.tm (m.ix + pre.length) t rest ↔ goodE m.tm m.ix (max m.lt 1) m.es) → XH Try.prog base lRen.1.n 0 (lRen.1.c.lp 0) [(1, .c (.ptr 0 0)), (13, .c (.p (.tz m.ez 4 (entP m.es) none))), (14, .c (.p (.int .i64 m.es.length))), (15, .c (.p (.int .i64 pre.length))), (3, .c (.p (.int .i64 i))), (4, .c (.p (.int .i64 t)))] (hRe m) Q := by
  intro rest
  induction rest with
  | nil =>
    intro pre t i hp hi hg
    have hp' : m.es = pre := by simpa using hp
    refine M.round (M.go rfl ?_)
    refine M.cond rfl (fun hc => absurd hc (by rw [hp']; omega)) (fun hc => ?_)
    refine M.ren [(0, 0)] ?_ trivial rfl (by repeat' (first | exact True.intro | refine ⟨⟨_, _, rfl, rfl, Wk.rfl⟩, ?_⟩ | refine ⟨⟨_, _, accV_ren rfl, rfl, Wk.rfl⟩, ?_⟩ | refine ⟨⟨_, _, accV_ren rfl, rfl, Wk.acc0⟩, ?_⟩ | refine ⟨⟨_, _, rfl, rfl, Wk.uncap⟩, ?_⟩ | refine ⟨⟨_, _, rfl, rfl, Wk.nil⟩, ?_⟩)) (by repeat' (first | exact True.intro | refine ⟨⟨_, _, _, rfl, rfl, rfl, WkO.rfl⟩, ?_⟩ | refine HeapOK.acc rfl rfl ?_ | refine HeapOK.es rfl rfl ?_)) (e' := [(1, .c (.ptr 0 0))]) (h' := hRe m)
    exact M.exit (M.go rfl (M.done (hq (hg.1 trivial))))
  | cons e rest ih =>
    intro pre t i hp hi hg
    subst hi
    have hlen : m.es.length = pre.length + (rest.length + 1) := by rw [hp]; simp
    have hu : (entP m.es)[((pre.length : Int)).toNat]? = some e.pc := by rw [hp]; exact at_app _ _ _ _
    have he := hsm e (by rw [hp]; simp)
    have hw2 : IntKind.i64.wrap ((pre.length : Int) + 1) = ((pre ++ [e]).length : Int) := by rw [wr64 (by omega) (by omega)]; simp
    have hw3 : IntKind.i64.wrap (m.ix + pre.length + 1) = m.ix + ((pre ++ [e]).length : Int) := by rw [wr64 (by omega) (by omega)]; simp; omega
    have hln : m.ix + ((pre ++ [e]).length : Int) = m.ix + pre.length + 1 := by simp; omega
    have bad : ¬ eOK m.tm (m.ix + pre.length) t e → ¬ goodE m.tm m.ix (max m.lt 1) m.es := fun h g => h (hg.2 g).1
    refine M.round (M.go rfl ?_)
    refine M.cond rfl (fun hc => ?_) (fun hc => absurd (by omega) hc)
    refine M.go rfl ?_
    refine M.op trivial (SOp.ia rfl rfl (by omega) hu) ?_
    refine M.op trivial (SOp.ldne rfl hu rfl rfl rfl) ?_
    refine M.go rfl ?_
    rw [hw3]
    refine M.decN rfl (fun g1 => ?_) (fun g1 => ?_)
    · refine M.go rfl ?_
      refine M.ren [] ?_ trivial rfl (by repeat' (first | exact True.intro | refine ⟨⟨_, _, rfl, rfl, Wk.rfl⟩, ?_⟩ | refine ⟨⟨_, _, accV_ren rfl, rfl, Wk.rfl⟩, ?_⟩ | refine ⟨⟨_, _, accV_ren rfl, rfl, Wk.acc0⟩, ?_⟩ | refine ⟨⟨_, _, rfl, rfl, Wk.uncap⟩, ?_⟩ | refine ⟨⟨_, _, rfl, rfl, Wk.nil⟩, ?_⟩)) (by repeat' (first | exact True.intro | refine ⟨⟨_, _, _, rfl, rfl, rfl, WkO.rfl⟩, ?_⟩ | refine HeapOK.acc rfl rfl ?_ | refine HeapOK.es rfl rfl ?_)) (e' := [(2, .c (.p (.bool false)))]) (h' := ⟨[], 0⟩)
      exact M.ret (M.go rfl (M.done (hr (bad (fun f => g1 (by rw [hln]; exact f.1))))))
    refine M.go rfl ?_
    refine M.dec rfl (fun g2 => ?_) (fun g2 => ?_)
    · refine M.go rfl ?_
      refine M.ren [] ?_ trivial rfl (by repeat' (first | exact True.intro | refine ⟨⟨_, _, rfl, rfl, Wk.rfl⟩, ?_⟩ | refine ⟨⟨_, _, accV_ren rfl, rfl, Wk.rfl⟩, ?_⟩ | refine ⟨⟨_, _, accV_ren rfl, rfl, Wk.acc0⟩, ?_⟩ | refine ⟨⟨_, _, rfl, rfl, Wk.uncap⟩, ?_⟩ | refine ⟨⟨_, _, rfl, rfl, Wk.nil⟩, ?_⟩)) (by repeat' (first | exact True.intro | refine ⟨⟨_, _, _, rfl, rfl, rfl, WkO.rfl⟩, ?_⟩ | refine HeapOK.acc rfl rfl ?_ | refine HeapOK.es rfl rfl ?_)) (e' := [(2, .c (.p (.bool false)))]) (h' := ⟨[], 0⟩)
      exact M.ret (M.go rfl (M.done (hr (bad (fun f => by have := f.2.1; omega)))))
    refine M.go rfl ?_
    refine M.dec rfl (fun g3 => ?_) (fun g3 => ?_)
    · refine M.go rfl ?_
      refine M.ren [] ?_ trivial rfl (by repeat' (first | exact True.intro | refine ⟨⟨_, _, rfl, rfl, Wk.rfl⟩, ?_⟩ | refine ⟨⟨_, _, accV_ren rfl, rfl, Wk.rfl⟩, ?_⟩ | refine ⟨⟨_, _, accV_ren rfl, rfl, Wk.acc0⟩, ?_⟩ | refine ⟨⟨_, _, rfl, rfl, Wk.uncap⟩, ?_⟩ | refine ⟨⟨_, _, rfl, rfl, Wk.nil⟩, ?_⟩)) (by repeat' (first | exact True.intro | refine ⟨⟨_, _, _, rfl, rfl, rfl, WkO.rfl⟩, ?_⟩ | refine HeapOK.acc rfl rfl ?_ | refine HeapOK.es rfl rfl ?_)) (e' := [(2, .c (.p (.bool false)))]) (h' := ⟨[], 0⟩)
      exact M.ret (M.go rfl (M.done (hr (bad (fun f => by have := f.2.2.1; omega)))))
    refine M.go rfl ?_
    refine M.dec rfl (fun g4 => ?_) (fun g4 => ?_)
    · refine M.go rfl ?_
      refine M.ren [] ?_ trivial rfl (by repeat' (first | exact True.intro | refine ⟨⟨_, _, rfl, rfl, Wk.rfl⟩, ?_⟩ | refine ⟨⟨_, _, accV_ren rfl, rfl, Wk.rfl⟩, ?_⟩ | refine ⟨⟨_, _, accV_ren rfl, rfl, Wk.acc0⟩, ?_⟩ | refine ⟨⟨_, _, rfl, rfl, Wk.uncap⟩, ?_⟩ | refine ⟨⟨_, _, rfl, rfl, Wk.nil⟩, ?_⟩)) (by repeat' (first | exact True.intro | refine ⟨⟨_, _, _, rfl, rfl, rfl, WkO.rfl⟩, ?_⟩ | refine HeapOK.acc rfl rfl ?_ | refine HeapOK.es rfl rfl ?_)) (e' := [(2, .c (.p (.bool false)))]) (h' := ⟨[], 0⟩)
      exact M.ret (M.go rfl (M.done (hr (bad (fun f => by have := f.2.2.2.1; omega)))))
    refine M.go rfl ?_
    refine M.dec rfl (fun g5 => ?_) (fun g5 => ?_)
    · refine M.go rfl ?_
      refine M.ren [] ?_ trivial rfl (by repeat' (first | exact True.intro | refine ⟨⟨_, _, rfl, rfl, Wk.rfl⟩, ?_⟩ | refine ⟨⟨_, _, accV_ren rfl, rfl, Wk.rfl⟩, ?_⟩ | refine ⟨⟨_, _, accV_ren rfl, rfl, Wk.acc0⟩, ?_⟩ | refine ⟨⟨_, _, rfl, rfl, Wk.uncap⟩, ?_⟩ | refine ⟨⟨_, _, rfl, rfl, Wk.nil⟩, ?_⟩)) (by repeat' (first | exact True.intro | refine ⟨⟨_, _, _, rfl, rfl, rfl, WkO.rfl⟩, ?_⟩ | refine HeapOK.acc rfl rfl ?_ | refine HeapOK.es rfl rfl ?_)) (e' := [(2, .c (.p (.bool false)))]) (h' := ⟨[], 0⟩)
      exact M.ret (M.go rfl (M.done (hr (bad (fun f => by have := f.2.2.2.2.1; omega)))))
    have good : (e.kd = 3 → selI (nI e.d) ≠ []) → XH Try.prog base lRen.1.n 0 (lRen.1.c.lp 0) [(1, .c (.ptr 0 0)), (13, .c (.p (.tz m.ez 4 (entP m.es) none))), (14, .c (.p (.int .i64 m.es.length))), (15, .c (.p (.int .i64 (pre ++ [e]).length))), (3, .c (.p (.int .i64 (m.ix + (pre ++ [e]).length)))), (4, .c (.p (.int .i64 e.tm)))] (hRe m) Q := fun h6 => by
      refine ih (pre ++ [e]) e.tm _ (by rw [hp]; simp) rfl ?_
      rw [hln, ← hg]
      exact ⟨fun g => ⟨⟨by rw [← hln]; exact g1, by omega, by omega, by omega, by omega, h6⟩, g⟩, fun g => g.2⟩
    refine M.go rfl ?_
    refine M.dec rfl (fun g6 => ?_) (fun g6 => ?_)
    · refine M.go rfl ?_
      refine M.use0 rfl (mbs_spec e.z e.c e.d he.d) rfl rfl rfl ?_
      refine M.go rfl ?_
      refine M.condB rfl (fun g7 => ?_) (fun g7 => ?_)
      · refine M.go rfl ?_
        refine M.ren [] ?_ trivial rfl (by repeat' (first | exact True.intro | refine ⟨⟨_, _, rfl, rfl, Wk.rfl⟩, ?_⟩ | refine ⟨⟨_, _, accV_ren rfl, rfl, Wk.rfl⟩, ?_⟩ | refine ⟨⟨_, _, accV_ren rfl, rfl, Wk.acc0⟩, ?_⟩ | refine ⟨⟨_, _, rfl, rfl, Wk.uncap⟩, ?_⟩ | refine ⟨⟨_, _, rfl, rfl, Wk.nil⟩, ?_⟩)) (by repeat' (first | exact True.intro | refine ⟨⟨_, _, _, rfl, rfl, rfl, WkO.rfl⟩, ?_⟩ | refine HeapOK.acc rfl rfl ?_ | refine HeapOK.es rfl rfl ?_)) (e' := [(2, .c (.p (.bool false)))]) (h' := ⟨[], 0⟩)
        exact M.ret (M.go rfl (M.done (hr (bad (fun f => f.2.2.2.2.2 g6 (emp7 g7))))))
      · refine M.go rfl ?_
        rw [hw2]
        exact M.again (XH.ren [(0, 0)] (good fun _ e => by rw [e] at g7; cases g7) rfl (by repeat' (first | exact True.intro | refine ⟨⟨_, _, rfl, rfl, Wk.rfl⟩, ?_⟩ | refine ⟨⟨_, _, accV_ren rfl, rfl, Wk.rfl⟩, ?_⟩ | refine ⟨⟨_, _, accV_ren rfl, rfl, Wk.acc0⟩, ?_⟩ | refine ⟨⟨_, _, rfl, rfl, Wk.uncap⟩, ?_⟩ | refine ⟨⟨_, _, rfl, rfl, Wk.nil⟩, ?_⟩)) (by repeat' (first | exact True.intro | refine ⟨⟨_, _, _, rfl, rfl, rfl, WkO.rfl⟩, ?_⟩ | refine HeapOK.acc rfl rfl ?_ | refine HeapOK.es rfl rfl ?_)))
    · refine M.go rfl ?_
      rw [hw2]
      exact M.again (XH.ren [(0, 0)] (good fun h => absurd h g6) rfl (by repeat' (first | exact True.intro | refine ⟨⟨_, _, rfl, rfl, Wk.rfl⟩, ?_⟩ | refine ⟨⟨_, _, accV_ren rfl, rfl, Wk.rfl⟩, ?_⟩ | refine ⟨⟨_, _, accV_ren rfl, rfl, Wk.acc0⟩, ?_⟩ | refine ⟨⟨_, _, rfl, rfl, Wk.uncap⟩, ?_⟩ | refine ⟨⟨_, _, rfl, rfl, Wk.nil⟩, ?_⟩)) (by repeat' (first | exact True.intro | refine ⟨⟨_, _, _, rfl, rfl, rfl, WkO.rfl⟩, ?_⟩ | refine HeapOK.acc rfl rfl ?_ | refine HeapOK.es rfl rfl ?_)))
open Classical in
theorem re_spec (m : PMsg) (h8 : m.es.length ≤ 8) (hsm : ∀ e ∈ m.es, e.sm) (hix : 0 ≤ m.ix ∧ m.ix ≤ 1125899906842624) : CallS Try.prog base 67 [m.v] ⟨[], 0⟩ (.c (.p (.bs (decide (goodE m.tm m.ix (max m.lt 1) m.es))))) ⟨[], 0⟩ := by
  refine CallS.of noNG lRen.2 rfl (M.start (M.go rfl ?_))
  refine M.regD (MD.go rfl (MD.nil mixed (Fnl.nodup rfl) (M.go rfl ?_)))
  rw [entP_len, show maxI m.lt 1 = max m.lt 1 by unfold maxI; split <;> omega]
  refine M.loop (XH.ren [(0, 0)] (re_loop m h8 hsm hix _ (fun h => ?_) (fun h => ?_) m.es [] (max m.lt 1) m.ix rfl (by simp) (by simp)) rfl (by repeat' (first | exact True.intro | refine ⟨⟨_, _, rfl, rfl, Wk.rfl⟩, ?_⟩ | refine ⟨⟨_, _, accV_ren rfl, rfl, Wk.rfl⟩, ?_⟩ | refine ⟨⟨_, _, accV_ren rfl, rfl, Wk.acc0⟩, ?_⟩ | refine ⟨⟨_, _, rfl, rfl, Wk.uncap⟩, ?_⟩ | refine ⟨⟨_, _, rfl, rfl, Wk.nil⟩, ?_⟩)) (by repeat' (first | exact True.intro | refine ⟨⟨_, _, _, rfl, rfl, rfl, WkO.rfl⟩, ?_⟩ | refine HeapOK.acc rfl rfl ?_ | refine HeapOK.es rfl rfl ?_)))
  · refine M.q (M.go rfl ?_)
    rw [decide_eq_true h]
    exact M.ret (M.go rfl (M.done (finQ.ret [] rfl rfl rfl (Wk.b2 (by rw [entP_len, decide_eq_true (by omega)])) (by repeat' (first | exact True.intro | refine ⟨⟨_, _, _, rfl, rfl, rfl, WkO.rfl⟩, ?_⟩ | refine HeapOK.acc rfl rfl ?_ | refine HeapOK.es rfl rfl ?_)))))
  · refine M.q (M.go rfl ?_)
    rw [decide_eq_false h]
    exact M.done (finQ.ret [] rfl rfl rfl (by first | exact Wk.rfl | exact Wk.uncap | exact Wk.nil | exact Wk.b1 rfl | exact Wk.t2 Wk.rfl (Wk.b1 rfl)) (by repeat' (first | exact True.intro | refine ⟨⟨_, _, _, rfl, rfl, rfl, WkO.rfl⟩, ?_⟩ | refine HeapOK.acc rfl rfl ?_ | refine HeapOK.es rfl rfl ?_)))
noncomputable def lRgo : {F : LF // lowerF Try.prog 68 = some F} := ⟨_, rfl⟩
theorem rg_loop (z : Bool) (es : List Ent) (ix lt : Int) (h8 : es.length ≤ 8) (hsm : ∀ e ∈ es, e.sm) (hix : 0 ≤ ix ∧ ix ≤ 1125899906842624) (Q : QX) (hq : goodR ix lt es → Q (.exit 0) [] ⟨[], 0⟩) (hr : ¬ goodR ix lt es → Q .ret [(6, .c (.p (.bool false)))] ⟨[], 0⟩) :
    ∀ (rest pre : List Ent) (t i : Int), es = pre ++ rest → i = ix + pre.length → (goodR i t rest ↔ goodR ix lt es) → XH Try.prog base lRgo.1.n 0 (lRgo.1.c.lp 0) [(0, .c (.p (.tz z 4 (entP es) none))), (1, .c (.p (.int .i64 i))), (2, .c (.p (.int .i64 t))), (7, .c (.p (.int .i64 pre.length)))] ⟨[], 0⟩ Q := by
  intro rest
  induction rest with
  | nil =>
    intro pre t i hp hi hg
    have hp' : es = pre := by simpa using hp
    refine M.round (M.go rfl ?_)
    refine M.cond rfl (fun hc => absurd hc (by rw [entP_len, hp']; omega)) (fun hc => ?_)
    refine M.ren [] ?_ trivial rfl (by repeat' (first | exact True.intro | refine ⟨⟨_, _, rfl, rfl, Wk.rfl⟩, ?_⟩ | refine ⟨⟨_, _, accV_ren rfl, rfl, Wk.rfl⟩, ?_⟩ | refine ⟨⟨_, _, accV_ren rfl, rfl, Wk.acc0⟩, ?_⟩ | refine ⟨⟨_, _, rfl, rfl, Wk.uncap⟩, ?_⟩ | refine ⟨⟨_, _, rfl, rfl, Wk.nil⟩, ?_⟩)) (by repeat' (first | exact True.intro | refine ⟨⟨_, _, _, rfl, rfl, rfl, WkO.rfl⟩, ?_⟩ | refine HeapOK.acc rfl rfl ?_ | refine HeapOK.es rfl rfl ?_)) (e' := []) (h' := ⟨[], 0⟩)
    exact M.exit (M.go rfl (M.done (hq (hg.1 trivial))))
  | cons e rest ih =>
    intro pre t i hp hi hg
    have hlen : es.length = pre.length + (rest.length + 1) := by rw [hp]; simp
    have hu : (entP es)[((pre.length : Int)).toNat]? = some e.pc := by rw [hp]; exact at_app _ _ _ _
    have he := hsm e (by rw [hp]; simp)
    have hw2 : IntKind.i64.wrap ((pre.length : Int) + 1) = ((pre ++ [e]).length : Int) := by rw [wr64 (by omega) (by omega)]; simp
    have hw3 : IntKind.i64.wrap (i + 1) = i + 1 := wr64 (by omega) (by omega)
    have bad : ¬ gOK i t e → ¬ goodR ix lt es := fun h g => h (hg.2 g).1
    refine M.round (M.go rfl ?_)
    refine M.cond rfl (fun hc => ?_) (fun hc => absurd (by rw [entP_len]; omega) hc)
    refine M.go rfl ?_
    refine M.op trivial (SOp.ia rfl rfl (by omega) hu) ?_
    refine M.op trivial (SOp.ldne rfl hu rfl rfl rfl) ?_
    refine M.go rfl ?_
    rw [hw3]
    refine M.decN rfl (fun g1 => ?_) (fun g1 => ?_)
    · refine M.go rfl ?_
      refine M.ren [] ?_ trivial rfl (by repeat' (first | exact True.intro | refine ⟨⟨_, _, rfl, rfl, Wk.rfl⟩, ?_⟩ | refine ⟨⟨_, _, accV_ren rfl, rfl, Wk.rfl⟩, ?_⟩ | refine ⟨⟨_, _, accV_ren rfl, rfl, Wk.acc0⟩, ?_⟩ | refine ⟨⟨_, _, rfl, rfl, Wk.uncap⟩, ?_⟩ | refine ⟨⟨_, _, rfl, rfl, Wk.nil⟩, ?_⟩)) (by repeat' (first | exact True.intro | refine ⟨⟨_, _, _, rfl, rfl, rfl, WkO.rfl⟩, ?_⟩ | refine HeapOK.acc rfl rfl ?_ | refine HeapOK.es rfl rfl ?_)) (e' := [(6, .c (.p (.bool false)))]) (h' := ⟨[], 0⟩)
      exact M.ret (M.go rfl (M.done (hr (bad (fun f => g1 f.1)))))
    refine M.go rfl ?_
    refine M.dec rfl (fun g2 => ?_) (fun g2 => ?_)
    · refine M.go rfl ?_
      refine M.ren [] ?_ trivial rfl (by repeat' (first | exact True.intro | refine ⟨⟨_, _, rfl, rfl, Wk.rfl⟩, ?_⟩ | refine ⟨⟨_, _, accV_ren rfl, rfl, Wk.rfl⟩, ?_⟩ | refine ⟨⟨_, _, accV_ren rfl, rfl, Wk.acc0⟩, ?_⟩ | refine ⟨⟨_, _, rfl, rfl, Wk.uncap⟩, ?_⟩ | refine ⟨⟨_, _, rfl, rfl, Wk.nil⟩, ?_⟩)) (by repeat' (first | exact True.intro | refine ⟨⟨_, _, _, rfl, rfl, rfl, WkO.rfl⟩, ?_⟩ | refine HeapOK.acc rfl rfl ?_ | refine HeapOK.es rfl rfl ?_)) (e' := [(6, .c (.p (.bool false)))]) (h' := ⟨[], 0⟩)
      exact M.ret (M.go rfl (M.done (hr (bad (fun f => by have := f.2.1; omega)))))
    refine M.go rfl ?_
    refine M.dec rfl (fun g3 => ?_) (fun g3 => ?_)
    · refine M.go rfl ?_
      refine M.ren [] ?_ trivial rfl (by repeat' (first | exact True.intro | refine ⟨⟨_, _, rfl, rfl, Wk.rfl⟩, ?_⟩ | refine ⟨⟨_, _, accV_ren rfl, rfl, Wk.rfl⟩, ?_⟩ | refine ⟨⟨_, _, accV_ren rfl, rfl, Wk.acc0⟩, ?_⟩ | refine ⟨⟨_, _, rfl, rfl, Wk.uncap⟩, ?_⟩ | refine ⟨⟨_, _, rfl, rfl, Wk.nil⟩, ?_⟩)) (by repeat' (first | exact True.intro | refine ⟨⟨_, _, _, rfl, rfl, rfl, WkO.rfl⟩, ?_⟩ | refine HeapOK.acc rfl rfl ?_ | refine HeapOK.es rfl rfl ?_)) (e' := [(6, .c (.p (.bool false)))]) (h' := ⟨[], 0⟩)
      exact M.ret (M.go rfl (M.done (hr (bad (fun f => by have := f.2.2.1; omega)))))
    refine M.go rfl ?_
    refine M.dec rfl (fun g4 => ?_) (fun g4 => ?_)
    · refine M.go rfl ?_
      refine M.ren [] ?_ trivial rfl (by repeat' (first | exact True.intro | refine ⟨⟨_, _, rfl, rfl, Wk.rfl⟩, ?_⟩ | refine ⟨⟨_, _, accV_ren rfl, rfl, Wk.rfl⟩, ?_⟩ | refine ⟨⟨_, _, accV_ren rfl, rfl, Wk.acc0⟩, ?_⟩ | refine ⟨⟨_, _, rfl, rfl, Wk.uncap⟩, ?_⟩ | refine ⟨⟨_, _, rfl, rfl, Wk.nil⟩, ?_⟩)) (by repeat' (first | exact True.intro | refine ⟨⟨_, _, _, rfl, rfl, rfl, WkO.rfl⟩, ?_⟩ | refine HeapOK.acc rfl rfl ?_ | refine HeapOK.es rfl rfl ?_)) (e' := [(6, .c (.p (.bool false)))]) (h' := ⟨[], 0⟩)
      exact M.ret (M.go rfl (M.done (hr (bad (fun f => by have := f.2.2.2.1; omega)))))
    refine M.go rfl ?_
    refine M.dec rfl (fun g5 => ?_) (fun g5 => ?_)
    · refine M.go rfl ?_
      refine M.ren [] ?_ trivial rfl (by repeat' (first | exact True.intro | refine ⟨⟨_, _, rfl, rfl, Wk.rfl⟩, ?_⟩ | refine ⟨⟨_, _, accV_ren rfl, rfl, Wk.rfl⟩, ?_⟩ | refine ⟨⟨_, _, accV_ren rfl, rfl, Wk.acc0⟩, ?_⟩ | refine ⟨⟨_, _, rfl, rfl, Wk.uncap⟩, ?_⟩ | refine ⟨⟨_, _, rfl, rfl, Wk.nil⟩, ?_⟩)) (by repeat' (first | exact True.intro | refine ⟨⟨_, _, _, rfl, rfl, rfl, WkO.rfl⟩, ?_⟩ | refine HeapOK.acc rfl rfl ?_ | refine HeapOK.es rfl rfl ?_)) (e' := [(6, .c (.p (.bool false)))]) (h' := ⟨[], 0⟩)
      exact M.ret (M.go rfl (M.done (hr (bad (fun f => by have := f.2.2.2.2.1; omega)))))
    have good : (e.kd = 3 → selI (nI e.d) ≠ []) → XH Try.prog base lRgo.1.n 0 (lRgo.1.c.lp 0) [(0, .c (.p (.tz z 4 (entP es) none))), (1, .c (.p (.int .i64 e.ix))), (2, .c (.p (.int .i64 e.tm))), (7, .c (.p (.int .i64 (pre ++ [e]).length)))] ⟨[], 0⟩ Q := fun h6 => by
      refine ih (pre ++ [e]) e.tm e.ix (by rw [hp]; simp) (by rw [g1, hi]; simp; omega) ?_
      rw [← hg, g1]
      exact ⟨fun g => ⟨⟨g1, by omega, by omega, by omega, by omega, h6⟩, g⟩, fun g => g.2⟩
    refine M.go rfl ?_
    refine M.dec rfl (fun g6 => ?_) (fun g6 => ?_)
    · refine M.go rfl ?_
      refine M.use0 rfl (ids_spec e.z e.c e.d he.d) rfl rfl rfl ?_
      refine M.go rfl ?_
      refine M.condB rfl (fun g7 => ?_) (fun g7 => ?_)
      · refine M.go rfl ?_
        refine M.ren [] ?_ trivial rfl (by repeat' (first | exact True.intro | refine ⟨⟨_, _, rfl, rfl, Wk.rfl⟩, ?_⟩ | refine ⟨⟨_, _, accV_ren rfl, rfl, Wk.rfl⟩, ?_⟩ | refine ⟨⟨_, _, accV_ren rfl, rfl, Wk.acc0⟩, ?_⟩ | refine ⟨⟨_, _, rfl, rfl, Wk.uncap⟩, ?_⟩ | refine ⟨⟨_, _, rfl, rfl, Wk.nil⟩, ?_⟩)) (by repeat' (first | exact True.intro | refine ⟨⟨_, _, _, rfl, rfl, rfl, WkO.rfl⟩, ?_⟩ | refine HeapOK.acc rfl rfl ?_ | refine HeapOK.es rfl rfl ?_)) (e' := [(6, .c (.p (.bool false)))]) (h' := ⟨[], 0⟩)
        exact M.ret (M.go rfl (M.done (hr (bad (fun f => f.2.2.2.2.2 g6 (emp7 g7))))))
      · refine M.go rfl ?_
        refine M.regD (MD.go rfl (MD.nil mixed (Fnl.nodup rfl) (M.go rfl ?_)))
        rw [hw2]
        exact M.again (XH.ren [] (good fun _ e => by rw [e] at g7; cases g7) rfl (by repeat' (first | exact True.intro | refine ⟨⟨_, _, rfl, rfl, Wk.rfl⟩, ?_⟩ | refine ⟨⟨_, _, accV_ren rfl, rfl, Wk.rfl⟩, ?_⟩ | refine ⟨⟨_, _, accV_ren rfl, rfl, Wk.acc0⟩, ?_⟩ | refine ⟨⟨_, _, rfl, rfl, Wk.uncap⟩, ?_⟩ | refine ⟨⟨_, _, rfl, rfl, Wk.nil⟩, ?_⟩)) (by repeat' (first | exact True.intro | refine ⟨⟨_, _, _, rfl, rfl, rfl, WkO.rfl⟩, ?_⟩ | refine HeapOK.acc rfl rfl ?_ | refine HeapOK.es rfl rfl ?_)))
    · refine M.go rfl ?_
      refine M.regD (MD.go rfl (MD.nil mixed (Fnl.nodup rfl) (M.go rfl ?_)))
      rw [hw2]
      exact M.again (XH.ren [] (good fun h => absurd h g6) rfl (by repeat' (first | exact True.intro | refine ⟨⟨_, _, rfl, rfl, Wk.rfl⟩, ?_⟩ | refine ⟨⟨_, _, accV_ren rfl, rfl, Wk.rfl⟩, ?_⟩ | refine ⟨⟨_, _, accV_ren rfl, rfl, Wk.acc0⟩, ?_⟩ | refine ⟨⟨_, _, rfl, rfl, Wk.uncap⟩, ?_⟩ | refine ⟨⟨_, _, rfl, rfl, Wk.nil⟩, ?_⟩)) (by repeat' (first | exact True.intro | refine ⟨⟨_, _, _, rfl, rfl, rfl, WkO.rfl⟩, ?_⟩ | refine HeapOK.acc rfl rfl ?_ | refine HeapOK.es rfl rfl ?_)))
open Classical in
theorem rg_spec (z : Bool) (es : List Ent) (ix lt : Int) (h8 : es.length ≤ 8) (hsm : ∀ e ∈ es, e.sm) (hix : 0 ≤ ix ∧ ix ≤ 1125899906842624) : CallS Try.prog base 68 [.c (.p (.tz z 4 (entP es) none)), .c (.p (.int .i64 ix)), .c (.p (.int .i64 lt))] ⟨[], 0⟩ (.c (.p (.bs (decide (goodR ix lt es))))) ⟨[], 0⟩ := by
  refine CallS.of noNG lRgo.2 rfl (M.start (M.go rfl ?_))
  refine M.loop (XH.ren [] (rg_loop z es ix lt h8 hsm hix _ (fun h => ?_) (fun h => ?_) es [] lt ix rfl (by simp) Iff.rfl) rfl (by repeat' (first | exact True.intro | refine ⟨⟨_, _, rfl, rfl, Wk.rfl⟩, ?_⟩ | refine ⟨⟨_, _, accV_ren rfl, rfl, Wk.rfl⟩, ?_⟩ | refine ⟨⟨_, _, accV_ren rfl, rfl, Wk.acc0⟩, ?_⟩ | refine ⟨⟨_, _, rfl, rfl, Wk.uncap⟩, ?_⟩ | refine ⟨⟨_, _, rfl, rfl, Wk.nil⟩, ?_⟩)) (by repeat' (first | exact True.intro | refine ⟨⟨_, _, _, rfl, rfl, rfl, WkO.rfl⟩, ?_⟩ | refine HeapOK.acc rfl rfl ?_ | refine HeapOK.es rfl rfl ?_)))
  · refine M.q (M.go rfl ?_)
    rw [decide_eq_true h]
    exact M.ret (M.go rfl (M.done (finQ.ret [] rfl rfl rfl (Wk.b1 rfl) (by repeat' (first | exact True.intro | refine ⟨⟨_, _, _, rfl, rfl, rfl, WkO.rfl⟩, ?_⟩ | refine HeapOK.acc rfl rfl ?_ | refine HeapOK.es rfl rfl ?_)))))
  · refine M.q (M.go rfl ?_)
    rw [decide_eq_false h]
    exact M.done (finQ.ret [] rfl rfl rfl (by first | exact Wk.rfl | exact Wk.uncap | exact Wk.nil | exact Wk.b1 rfl | exact Wk.t2 Wk.rfl (Wk.b1 rfl)) (by repeat' (first | exact True.intro | refine ⟨⟨_, _, _, rfl, rfl, rfl, WkO.rfl⟩, ?_⟩ | refine HeapOK.acc rfl rfl ?_ | refine HeapOK.es rfl rfl ?_)))
end Go.Proofs.Ytgaaffanoegbhaa

/- raft.May, delphiref22.May; delphilaw22.RaftMay. -/
namespace Go.Proofs.Ytgaaffanoegbhaa
open Go.RowKit Sim Go Sym
set_option maxRecDepth 100000
set_option linter.unusedVariables false
set_option linter.unusedSimpArgs false
variable {base : Nat}
def farB : Int := 1125899906842624
def mayN (m : PMsg) : Prop := 1 ≤ m.kd ∧ m.kd ≤ 9 ∧ 1 ≤ m.fr ∧ m.fr ≤ 7 ∧ 1 ≤ m.to ∧ m.to ≤ 7 ∧ 1 ≤ m.tm ∧ m.tm ≤ 1125899906842624 ∧ 0 ≤ m.ix ∧ m.ix ≤ 1125899906842624 ∧ 0 ≤ m.lt ∧ m.lt ≤ m.tm ∧ 0 ≤ m.cm ∧ m.cm ≤ 1125899906842624 ∧ 0 ≤ m.hint ∧ m.hint ≤ 1125899906842624 ∧ 0 ≤ m.off ∧ m.off ≤ 1125899906842624 ∧ 0 ≤ m.sz ∧ m.sz ≤ 1125899906842624 ∧ 0 ≤ m.ctx ∧ m.ctx ≤ 1125899906842624
def mayS (m : PMsg) : Prop := if m.kd = 7 then mayI m.cf = true ∧ m.d.length ≤ 64 ∧ 0 < m.ix else m.cf.length = 0 ∧ m.d.length = 0
structure MayP (m : PMsg) : Prop where
  n : mayN m
  e : goodE m.tm m.ix (max m.lt 1) m.es
  k : m.es.length = 0 ∨ m.kd = 5
  s : mayS m
structure PMsg.sm (m : PMsg) : Prop where
  es : m.es.length ≤ 8 ∧ ∀ e ∈ m.es, e.sm
  cf : m.cf.length ≤ 100
  d : m.d.length ≤ 100
theorem in50_8 (m : PMsg) : in50 [m.tm, m.ix, m.lt, m.cm, m.hint, m.off, m.sz, m.ctx] = true ↔ (0 ≤ m.tm ∧ m.tm ≤ 1125899906842624) ∧ (0 ≤ m.ix ∧ m.ix ≤ 1125899906842624) ∧ (0 ≤ m.lt ∧ m.lt ≤ 1125899906842624) ∧ (0 ≤ m.cm ∧ m.cm ≤ 1125899906842624) ∧ (0 ≤ m.hint ∧ m.hint ≤ 1125899906842624) ∧ (0 ≤ m.off ∧ m.off ≤ 1125899906842624) ∧ (0 ≤ m.sz ∧ m.sz ≤ 1125899906842624) ∧ (0 ≤ m.ctx ∧ m.ctx ≤ 1125899906842624) := by simp [in50]
theorem inPn (l : List Int) : (inP l).length = l.length := by simp [inP]
theorem byPn (l : List Nat) : (byP l).length = l.length := by simp [byP]
noncomputable def lRmy : {F : LF // lowerF Try.prog 41 = some F} := ⟨_, rfl⟩
open Classical in
theorem rmy_spec (m : PMsg) (hm : m.sm) : CallS Try.prog base 41 [m.v] ⟨[], 0⟩ (.c (.p (.bs (decide (MayP m))))) ⟨[], 0⟩ := by
  refine CallS.of noNG lRmy.2 rfl (M.start (M.go rfl ?_))
  refine M.dec rfl (fun g => ?_) (fun g1 => ?_)
  · refine M.go rfl ?_
    exact M.ret (M.go rfl (M.done (finQ.ret [] rfl rfl rfl (Wk.b1 (decide_eq_false (fun f => by have := f.n; unfold mayN at this; omega))) (by repeat' (first | exact True.intro | refine ⟨⟨_, _, _, rfl, rfl, rfl, WkO.rfl⟩, ?_⟩ | refine HeapOK.acc rfl rfl ?_ | refine HeapOK.es rfl rfl ?_)))))
  refine M.go rfl ?_
  refine M.dec rfl (fun g => ?_) (fun g2 => ?_)
  · refine M.go rfl ?_
    exact M.ret (M.go rfl (M.done (finQ.ret [] rfl rfl rfl (Wk.b1 (decide_eq_false (fun f => by have := f.n; unfold mayN at this; omega))) (by repeat' (first | exact True.intro | refine ⟨⟨_, _, _, rfl, rfl, rfl, WkO.rfl⟩, ?_⟩ | refine HeapOK.acc rfl rfl ?_ | refine HeapOK.es rfl rfl ?_)))))
  refine M.go rfl ?_
  refine M.use0 rfl (rid_spec m.fr) rfl rfl rfl ?_
  refine M.go rfl ?_
  refine M.decN rfl (fun g => ?_) (fun g3 => ?_)
  · refine M.go rfl ?_
    exact M.ret (M.go rfl (M.done (finQ.ret [] rfl rfl rfl (Wk.b1 (decide_eq_false (fun f => by have := f.n; unfold mayN at this; omega))) (by repeat' (first | exact True.intro | refine ⟨⟨_, _, _, rfl, rfl, rfl, WkO.rfl⟩, ?_⟩ | refine HeapOK.acc rfl rfl ?_ | refine HeapOK.es rfl rfl ?_)))))
  refine M.go rfl ?_
  refine M.use0 rfl (rid_spec m.to) rfl rfl rfl ?_
  refine M.go rfl ?_
  refine M.decN rfl (fun g => ?_) (fun g4 => ?_)
  · refine M.go rfl ?_
    exact M.ret (M.go rfl (M.done (finQ.ret [] rfl rfl rfl (Wk.b1 (decide_eq_false (fun f => by have := f.n; unfold mayN at this; omega))) (by repeat' (first | exact True.intro | refine ⟨⟨_, _, _, rfl, rfl, rfl, WkO.rfl⟩, ?_⟩ | refine HeapOK.acc rfl rfl ?_ | refine HeapOK.es rfl rfl ?_)))))
  refine M.go rfl ?_
  refine M.decC (s := 3) rfl (fun g => ?_) (fun g5 => ?_)
  · have g' := of_decide_eq_true g
    refine M.go rfl ?_
    exact M.ret (M.go rfl (M.done (finQ.ret [] rfl rfl rfl (Wk.b1 (decide_eq_false (fun f => by have := f.n; unfold mayN at this; omega))) (by repeat' (first | exact True.intro | refine ⟨⟨_, _, _, rfl, rfl, rfl, WkO.rfl⟩, ?_⟩ | refine HeapOK.acc rfl rfl ?_ | refine HeapOK.es rfl rfl ?_)))))
  have g5' := of_decide_eq_false g5
  refine M.go rfl ?_
  refine M.freezeO (i := 45) rfl rfl rfl ?_
  refine M.use0 trivial (in50_spec false (some 8) [m.tm, m.ix, m.lt, m.cm, m.hint, m.off, m.sz, m.ctx] (by simp)) rfl rfl rfl ?_
  refine M.go rfl ?_
  refine M.decC (s := 3) rfl (fun g => ?_) (fun g => ?_)
  · refine M.go rfl ?_
    exact M.ret (M.go rfl (M.done (finQ.ret [] rfl rfl rfl (Wk.b1 (decide_eq_false (fun f => by
        have h := f.n
        unfold mayN at h
        have : in50 [m.tm, m.ix, m.lt, m.cm, m.hint, m.off, m.sz, m.ctx] = true := (in50_8 m).2 (by omega)
        rw [this] at g; cases g))) (by repeat' (first | exact True.intro | refine ⟨⟨_, _, _, rfl, rfl, rfl, WkO.rfl⟩, ?_⟩ | refine HeapOK.acc rfl rfl ?_ | refine HeapOK.es rfl rfl ?_)))))
  have g6 := (in50_8 m).1 (by cases e : in50 [m.tm, m.ix, m.lt, m.cm, m.hint, m.off, m.sz, m.ctx] with
    | true => rfl
    | false => rw [e] at g; cases g)
  refine M.go rfl ?_
  refine M.dec rfl (fun g => ?_) (fun g7 => ?_)
  · refine M.go rfl ?_
    exact M.ret (M.go rfl (M.done (finQ.ret [] rfl rfl rfl (Wk.b1 (decide_eq_false (fun f => by have := f.n; unfold mayN at this; omega))) (by repeat' (first | exact True.intro | refine ⟨⟨_, _, _, rfl, rfl, rfl, WkO.rfl⟩, ?_⟩ | refine HeapOK.acc rfl rfl ?_ | refine HeapOK.es rfl rfl ?_)))))
  have N : mayN m := by unfold mayN; omega
  refine M.go rfl ?_
  refine M.use0 rfl (re_spec m hm.es.1 hm.es.2 g6.2.1) rfl rfl rfl ?_
  refine M.go rfl ?_
  refine M.decC (s := 3) rfl (fun g => ?_) (fun g => ?_)
  · refine M.go rfl ?_
    exact M.ret (M.go rfl (M.done (finQ.ret [] rfl rfl rfl (Wk.b1 (decide_eq_false (fun f => by rw [decide_eq_true f.e] at g; cases g))) (by repeat' (first | exact True.intro | refine ⟨⟨_, _, _, rfl, rfl, rfl, WkO.rfl⟩, ?_⟩ | refine HeapOK.acc rfl rfl ?_ | refine HeapOK.es rfl rfl ?_)))))
  have E : goodE m.tm m.ix (max m.lt 1) m.es := by
    by_cases h : goodE m.tm m.ix (max m.lt 1) m.es
    · exact h
    · rw [decide_eq_false h] at g; cases g
  have tail : (m.es.length = 0 ∨ m.kd = 5) → (MayP m ↔ mayS m) := fun h => ⟨fun f => f.s, fun s => ⟨N, E, h, s⟩⟩
  refine M.go rfl ?_
  refine M.decN rfl (fun k5 => ?_) (fun k5 => ?_)
  · refine M.go rfl ?_
    refine M.decC (s := 3) rfl (fun g => ?_) (fun g => ?_)
    · have g' := of_decide_eq_true g
      rw [entP_len] at g'
      refine M.go rfl ?_
      exact M.ret (M.go rfl (M.done (finQ.ret [] rfl rfl rfl (Wk.b1 (decide_eq_false (fun f => by rcases f.k with h | h; omega; exact k5 h))) (by repeat' (first | exact True.intro | refine ⟨⟨_, _, _, rfl, rfl, rfl, WkO.rfl⟩, ?_⟩ | refine HeapOK.acc rfl rfl ?_ | refine HeapOK.es rfl rfl ?_)))))
    have g' := of_decide_eq_false g
    rw [entP_len] at g'
    have fin := tail (.inl (by omega))
    refine M.go rfl ?_
    refine M.cond rfl (fun h7 => ?_) (fun h7 => ?_)
    · have hs : mayS m ↔ mayI m.cf = true ∧ m.d.length ≤ 64 ∧ 0 < m.ix := by unfold mayS; rw [if_pos h7]
      refine M.go rfl ?_
      refine M.use0 trivial (mayI_spec m.cz none m.cf (by have := hm.cf; omega)) rfl rfl rfl ?_
      refine M.go rfl ?_
      refine M.decB rfl (fun b1 => ?_) (fun b1 => ?_)
      · refine M.go rfl ?_
        refine M.dec rfl (fun b2 => ?_) (fun b2 => ?_)
        · rw [byPn] at b2
          refine M.go rfl ?_
          exact M.ret (M.go rfl (M.done (finQ.ret [] rfl rfl rfl (Wk.b2 (decide_eq_decide.2 ⟨fun f => (hs.1 f.s).2.2, fun h => fin.2 (hs.2 ⟨b1, by omega, h⟩)⟩)) (by repeat' (first | exact True.intro | refine ⟨⟨_, _, _, rfl, rfl, rfl, WkO.rfl⟩, ?_⟩ | refine HeapOK.acc rfl rfl ?_ | refine HeapOK.es rfl rfl ?_)))))
        · rw [byPn] at b2
          refine M.go rfl ?_
          exact M.ret (M.go rfl (M.done (finQ.ret [] rfl rfl rfl (Wk.b1 (decide_eq_false (fun f => b2 (by have := (hs.1 f.s).2.1; omega)))) (by repeat' (first | exact True.intro | refine ⟨⟨_, _, _, rfl, rfl, rfl, WkO.rfl⟩, ?_⟩ | refine HeapOK.acc rfl rfl ?_ | refine HeapOK.es rfl rfl ?_)))))
      · refine M.go rfl ?_
        exact M.ret (M.go rfl (M.done (finQ.ret [] rfl rfl rfl (Wk.b1 (decide_eq_false (fun f => by rw [(hs.1 f.s).1] at b1; cases b1))) (by repeat' (first | exact True.intro | refine ⟨⟨_, _, _, rfl, rfl, rfl, WkO.rfl⟩, ?_⟩ | refine HeapOK.acc rfl rfl ?_ | refine HeapOK.es rfl rfl ?_)))))
    · have hs : mayS m ↔ m.cf.length = 0 ∧ m.d.length = 0 := by unfold mayS; rw [if_neg h7]
      refine M.go rfl ?_
      refine M.dec rfl (fun b1 => ?_) (fun b1 => ?_)
      · rw [inPn] at b1
        refine M.go rfl ?_
        exact M.ret (M.go rfl (M.done (finQ.ret [] rfl rfl rfl (Wk.b2 (decide_eq_decide.2 ⟨fun f => by rw [byPn]; have := (hs.1 f.s).2; omega, fun h => fin.2 (hs.2 ⟨by omega, by rw [byPn] at h; omega⟩)⟩)) (by repeat' (first | exact True.intro | refine ⟨⟨_, _, _, rfl, rfl, rfl, WkO.rfl⟩, ?_⟩ | refine HeapOK.acc rfl rfl ?_ | refine HeapOK.es rfl rfl ?_)))))
      · rw [inPn] at b1
        refine M.go rfl ?_
        exact M.ret (M.go rfl (M.done (finQ.ret [] rfl rfl rfl (Wk.b1 (decide_eq_false (fun f => b1 (by have := (hs.1 f.s).1; omega)))) (by repeat' (first | exact True.intro | refine ⟨⟨_, _, _, rfl, rfl, rfl, WkO.rfl⟩, ?_⟩ | refine HeapOK.acc rfl rfl ?_ | refine HeapOK.es rfl rfl ?_)))))
  · have fin := tail (.inr k5)
    refine M.go rfl ?_
    refine M.cond rfl (fun h7 => ?_) (fun h7 => ?_)
    · have hs : mayS m ↔ mayI m.cf = true ∧ m.d.length ≤ 64 ∧ 0 < m.ix := by unfold mayS; rw [if_pos h7]
      refine M.go rfl ?_
      refine M.use0 trivial (mayI_spec m.cz none m.cf (by have := hm.cf; omega)) rfl rfl rfl ?_
      refine M.go rfl ?_
      refine M.decB rfl (fun b1 => ?_) (fun b1 => ?_)
      · refine M.go rfl ?_
        refine M.dec rfl (fun b2 => ?_) (fun b2 => ?_)
        · rw [byPn] at b2
          refine M.go rfl ?_
          exact M.ret (M.go rfl (M.done (finQ.ret [] rfl rfl rfl (Wk.b2 (decide_eq_decide.2 ⟨fun f => (hs.1 f.s).2.2, fun h => fin.2 (hs.2 ⟨b1, by omega, h⟩)⟩)) (by repeat' (first | exact True.intro | refine ⟨⟨_, _, _, rfl, rfl, rfl, WkO.rfl⟩, ?_⟩ | refine HeapOK.acc rfl rfl ?_ | refine HeapOK.es rfl rfl ?_)))))
        · rw [byPn] at b2
          refine M.go rfl ?_
          exact M.ret (M.go rfl (M.done (finQ.ret [] rfl rfl rfl (Wk.b1 (decide_eq_false (fun f => b2 (by have := (hs.1 f.s).2.1; omega)))) (by repeat' (first | exact True.intro | refine ⟨⟨_, _, _, rfl, rfl, rfl, WkO.rfl⟩, ?_⟩ | refine HeapOK.acc rfl rfl ?_ | refine HeapOK.es rfl rfl ?_)))))
      · refine M.go rfl ?_
        exact M.ret (M.go rfl (M.done (finQ.ret [] rfl rfl rfl (Wk.b1 (decide_eq_false (fun f => by rw [(hs.1 f.s).1] at b1; cases b1))) (by repeat' (first | exact True.intro | refine ⟨⟨_, _, _, rfl, rfl, rfl, WkO.rfl⟩, ?_⟩ | refine HeapOK.acc rfl rfl ?_ | refine HeapOK.es rfl rfl ?_)))))
    · have hs : mayS m ↔ m.cf.length = 0 ∧ m.d.length = 0 := by unfold mayS; rw [if_neg h7]
      refine M.go rfl ?_
      refine M.dec rfl (fun b1 => ?_) (fun b1 => ?_)
      · rw [inPn] at b1
        refine M.go rfl ?_
        exact M.ret (M.go rfl (M.done (finQ.ret [] rfl rfl rfl (Wk.b2 (decide_eq_decide.2 ⟨fun f => by rw [byPn]; have := (hs.1 f.s).2; omega, fun h => fin.2 (hs.2 ⟨by omega, by rw [byPn] at h; omega⟩)⟩)) (by repeat' (first | exact True.intro | refine ⟨⟨_, _, _, rfl, rfl, rfl, WkO.rfl⟩, ?_⟩ | refine HeapOK.acc rfl rfl ?_ | refine HeapOK.es rfl rfl ?_)))))
      · rw [inPn] at b1
        refine M.go rfl ?_
        exact M.ret (M.go rfl (M.done (finQ.ret [] rfl rfl rfl (Wk.b1 (decide_eq_false (fun f => b1 (by have := (hs.1 f.s).1; omega)))) (by repeat' (first | exact True.intro | refine ⟨⟨_, _, _, rfl, rfl, rfl, WkO.rfl⟩, ?_⟩ | refine HeapOK.acc rfl rfl ?_ | refine HeapOK.es rfl rfl ?_)))))
noncomputable def lFmy : {F : LF // lowerF Try.prog 42 = some F} := ⟨_, rfl⟩
def allOK (m : PMsg) : Prop := ∀ e ∈ m.es, e.tm ≤ m.tm ∧ (e.kd = 3 → selI (nI e.d) ≠ [])
theorem fm_loop (m : PMsg) (h8 : m.es.length ≤ 8) (hsm : ∀ e ∈ m.es, e.sm) (Q : QX) (hq : allOK m → Q (.exit 0) [(1, .c (.ptr 0 0))] (hRe m)) (hr : ¬ allOK m → Q .ret [(2, .c (.p (.bool false)))] ⟨[], 0⟩) :
    ∀ (rest pre : List Ent), m.es = pre ++ rest → (∀ e ∈ pre, e.tm ≤ m.tm ∧ (e.kd = 3 → selI (nI e.d) ≠ [])) → XH Try.prog base lFmy.1.n 0 (lFmy.1.c.lp 0) [(1, .c (.ptr 0 0)), (3, .c (.p (.int .i64 pre.length)))] (hRe m) Q := by
  intro rest
  induction rest with
  | nil =>
    intro pre hp hg
    have hp' : m.es = pre := by simpa using hp
    refine M.round (M.go rfl ?_)
    refine M.cond rfl (fun hc => absurd hc (by rw [entP_len, hp']; omega)) (fun hc => ?_)
    refine M.ren [(0, 0)] ?_ trivial rfl (by repeat' (first | exact True.intro | refine ⟨⟨_, _, rfl, rfl, Wk.rfl⟩, ?_⟩ | refine ⟨⟨_, _, accV_ren rfl, rfl, Wk.rfl⟩, ?_⟩ | refine ⟨⟨_, _, accV_ren rfl, rfl, Wk.acc0⟩, ?_⟩ | refine ⟨⟨_, _, rfl, rfl, Wk.uncap⟩, ?_⟩ | refine ⟨⟨_, _, rfl, rfl, Wk.nil⟩, ?_⟩)) (by repeat' (first | exact True.intro | refine ⟨⟨_, _, _, rfl, rfl, rfl, WkO.rfl⟩, ?_⟩ | refine HeapOK.acc rfl rfl ?_ | refine HeapOK.es rfl rfl ?_)) (e' := [(1, .c (.ptr 0 0))]) (h' := hRe m)
    exact M.exit (M.go rfl (M.done (hq (by unfold allOK; rw [hp']; exact hg))))
  | cons e rest ih =>
    intro pre hp hg
    have hlen : m.es.length = pre.length + (rest.length + 1) := by rw [hp]; simp
    have hu : (entP m.es)[((pre.length : Int)).toNat]? = some e.pc := by rw [hp]; exact at_app _ _ _ _
    have he := hsm e (by rw [hp]; simp)
    have hw2 : IntKind.i64.wrap ((pre.length : Int) + 1) = ((pre ++ [e]).length : Int) := by rw [wr64 (by omega) (by omega)]; simp
    have bad : ¬ (e.tm ≤ m.tm ∧ (e.kd = 3 → selI (nI e.d) ≠ [])) → ¬ allOK m := fun h a => h (a e (by rw [hp]; simp))
    have nxt : e.tm ≤ m.tm → (e.kd = 3 → selI (nI e.d) ≠ []) → ∀ x ∈ pre ++ [e], x.tm ≤ m.tm ∧ (x.kd = 3 → selI (nI x.d) ≠ []) := fun h1 h2 x hx => by
      rcases List.mem_append.1 hx with hx | hx
      · exact hg x hx
      · rw [List.mem_singleton.1 hx]; exact ⟨h1, h2⟩
    refine M.round (M.go rfl ?_)
    refine M.cond rfl (fun hc => ?_) (fun hc => absurd (by rw [entP_len]; omega) hc)
    refine M.go rfl (M.regD (MD.go rfl ?_))
    refine MD.op trivial (SOp.ia rfl rfl (by omega) hu) (MD.go rfl ?_)
    refine MD.op trivial (SOp.ld1e rfl hu rfl rfl rfl) (MD.go rfl ?_)
    refine MD.dec rfl rfl rfl (fun g1 => ?_) (fun g1 => ?_)
    · refine MD.go rfl (MD.nil mixed (Fnl.nodup rfl) (M.go rfl ?_))
      refine M.ren [] ?_ trivial rfl (by repeat' (first | exact True.intro | refine ⟨⟨_, _, rfl, rfl, Wk.rfl⟩, ?_⟩ | refine ⟨⟨_, _, accV_ren rfl, rfl, Wk.rfl⟩, ?_⟩ | refine ⟨⟨_, _, accV_ren rfl, rfl, Wk.acc0⟩, ?_⟩ | refine ⟨⟨_, _, rfl, rfl, Wk.uncap⟩, ?_⟩ | refine ⟨⟨_, _, rfl, rfl, Wk.nil⟩, ?_⟩)) (by repeat' (first | exact True.intro | refine ⟨⟨_, _, _, rfl, rfl, rfl, WkO.rfl⟩, ?_⟩ | refine HeapOK.acc rfl rfl ?_ | refine HeapOK.es rfl rfl ?_)) (e' := [(2, .c (.p (.bool false)))]) (h' := ⟨[], 0⟩)
      exact M.ret (M.go rfl (M.done (hr (bad fun f => by have := f.1; omega))))
    refine MD.go rfl ?_
    refine MD.op rfl (SOp.ia rfl rfl (by omega) hu) (MD.go rfl ?_)
    refine MD.op rfl (SOp.ld1e rfl hu rfl rfl rfl) (MD.go rfl ?_)
    refine MD.dec rfl rfl rfl (fun g2 => ?_) (fun g2 => ?_)
    · refine MD.go rfl ?_
      refine MD.op rfl (SOp.ia rfl rfl (by omega) hu) (MD.go rfl ?_)
      refine MD.op rfl (SOp.ld1e rfl hu rfl rfl rfl) (MD.go rfl ?_)
      refine MD.use0 rfl (ids_spec e.z e.c e.d he.d) rfl rfl rfl (MD.go rfl ?_)
      refine MD.nil mixed (Fnl.nodup rfl) (M.go rfl ?_)
      refine M.condB rfl (fun g7 => ?_) (fun g7 => ?_)
      · refine M.go rfl ?_
        refine M.ren [] ?_ trivial rfl (by repeat' (first | exact True.intro | refine ⟨⟨_, _, rfl, rfl, Wk.rfl⟩, ?_⟩ | refine ⟨⟨_, _, accV_ren rfl, rfl, Wk.rfl⟩, ?_⟩ | refine ⟨⟨_, _, accV_ren rfl, rfl, Wk.acc0⟩, ?_⟩ | refine ⟨⟨_, _, rfl, rfl, Wk.uncap⟩, ?_⟩ | refine ⟨⟨_, _, rfl, rfl, Wk.nil⟩, ?_⟩)) (by repeat' (first | exact True.intro | refine ⟨⟨_, _, _, rfl, rfl, rfl, WkO.rfl⟩, ?_⟩ | refine HeapOK.acc rfl rfl ?_ | refine HeapOK.es rfl rfl ?_)) (e' := [(2, .c (.p (.bool false)))]) (h' := ⟨[], 0⟩)
        exact M.ret (M.go rfl (M.done (hr (bad fun f => f.2 g2 (emp7 g7)))))
      · refine M.go rfl ?_
        rw [hw2]
        exact M.again (XH.ren [(0, 0)] (ih (pre ++ [e]) (by rw [hp]; simp) (nxt (by omega) (fun _ e => by rw [e] at g7; cases g7))) rfl (by repeat' (first | exact True.intro | refine ⟨⟨_, _, rfl, rfl, Wk.rfl⟩, ?_⟩ | refine ⟨⟨_, _, accV_ren rfl, rfl, Wk.rfl⟩, ?_⟩ | refine ⟨⟨_, _, accV_ren rfl, rfl, Wk.acc0⟩, ?_⟩ | refine ⟨⟨_, _, rfl, rfl, Wk.uncap⟩, ?_⟩ | refine ⟨⟨_, _, rfl, rfl, Wk.nil⟩, ?_⟩)) (by repeat' (first | exact True.intro | refine ⟨⟨_, _, _, rfl, rfl, rfl, WkO.rfl⟩, ?_⟩ | refine HeapOK.acc rfl rfl ?_ | refine HeapOK.es rfl rfl ?_)))
    · refine MD.go rfl (MD.nil mixed (Fnl.nodup rfl) (M.go rfl ?_))
      rw [hw2]
      exact M.again (XH.ren [(0, 0)] (ih (pre ++ [e]) (by rw [hp]; simp) (nxt (by omega) (fun h => absurd h g2))) rfl (by repeat' (first | exact True.intro | refine ⟨⟨_, _, rfl, rfl, Wk.rfl⟩, ?_⟩ | refine ⟨⟨_, _, accV_ren rfl, rfl, Wk.rfl⟩, ?_⟩ | refine ⟨⟨_, _, accV_ren rfl, rfl, Wk.acc0⟩, ?_⟩ | refine ⟨⟨_, _, rfl, rfl, Wk.uncap⟩, ?_⟩ | refine ⟨⟨_, _, rfl, rfl, Wk.nil⟩, ?_⟩)) (by repeat' (first | exact True.intro | refine ⟨⟨_, _, _, rfl, rfl, rfl, WkO.rfl⟩, ?_⟩ | refine HeapOK.acc rfl rfl ?_ | refine HeapOK.es rfl rfl ?_)))
open Classical in
theorem fmy_spec (m : PMsg) (hm : m.sm) : CallS Try.prog base 42 [m.v] ⟨[], 0⟩ (.c (.p (.bs (decide (MayP m))))) ⟨[], 0⟩ := by
  refine CallS.of noNG lFmy.2 rfl (M.start (M.go rfl ?_))
  refine M.dec rfl (fun g => ?_) (fun g1 => ?_)
  · refine M.go rfl ?_
    exact M.ret (M.go rfl (M.done (finQ.ret [] rfl rfl rfl (Wk.b1 (decide_eq_false (fun f => by have := f.n; unfold mayN at this; omega))) (by repeat' (first | exact True.intro | refine ⟨⟨_, _, _, rfl, rfl, rfl, WkO.rfl⟩, ?_⟩ | refine HeapOK.acc rfl rfl ?_ | refine HeapOK.es rfl rfl ?_)))))
  refine M.go rfl ?_
  refine M.dec rfl (fun g => ?_) (fun g2 => ?_)
  · refine M.go rfl ?_
    exact M.ret (M.go rfl (M.done (finQ.ret [] rfl rfl rfl (Wk.b1 (decide_eq_false (fun f => by have := f.n; unfold mayN at this; omega))) (by repeat' (first | exact True.intro | refine ⟨⟨_, _, _, rfl, rfl, rfl, WkO.rfl⟩, ?_⟩ | refine HeapOK.acc rfl rfl ?_ | refine HeapOK.es rfl rfl ?_)))))
  refine M.go rfl ?_
  refine M.dec rfl (fun g => ?_) (fun g3 => ?_)
  · refine M.go rfl ?_
    exact M.ret (M.go rfl (M.done (finQ.ret [] rfl rfl rfl (Wk.b1 (decide_eq_false (fun f => by have := f.n; unfold mayN at this; omega))) (by repeat' (first | exact True.intro | refine ⟨⟨_, _, _, rfl, rfl, rfl, WkO.rfl⟩, ?_⟩ | refine HeapOK.acc rfl rfl ?_ | refine HeapOK.es rfl rfl ?_)))))
  refine M.go rfl ?_
  refine M.dec rfl (fun g => ?_) (fun g4 => ?_)
  · refine M.go rfl ?_
    exact M.ret (M.go rfl (M.done (finQ.ret [] rfl rfl rfl (Wk.b1 (decide_eq_false (fun f => by have := f.n; unfold mayN at this; omega))) (by repeat' (first | exact True.intro | refine ⟨⟨_, _, _, rfl, rfl, rfl, WkO.rfl⟩, ?_⟩ | refine HeapOK.acc rfl rfl ?_ | refine HeapOK.es rfl rfl ?_)))))
  refine M.go rfl ?_
  refine M.dec rfl (fun g => ?_) (fun g5 => ?_)
  · refine M.go rfl ?_
    exact M.ret (M.go rfl (M.done (finQ.ret [] rfl rfl rfl (Wk.b1 (decide_eq_false (fun f => by have := f.n; unfold mayN at this; omega))) (by repeat' (first | exact True.intro | refine ⟨⟨_, _, _, rfl, rfl, rfl, WkO.rfl⟩, ?_⟩ | refine HeapOK.acc rfl rfl ?_ | refine HeapOK.es rfl rfl ?_)))))
  refine M.go rfl ?_
  refine M.dec rfl (fun g => ?_) (fun g6 => ?_)
  · refine M.go rfl ?_
    exact M.ret (M.go rfl (M.done (finQ.ret [] rfl rfl rfl (Wk.b1 (decide_eq_false (fun f => by have := f.n; unfold mayN at this; omega))) (by repeat' (first | exact True.intro | refine ⟨⟨_, _, _, rfl, rfl, rfl, WkO.rfl⟩, ?_⟩ | refine HeapOK.acc rfl rfl ?_ | refine HeapOK.es rfl rfl ?_)))))
  refine M.go rfl ?_
  refine M.dec rfl (fun g => ?_) (fun g7 => ?_)
  · refine M.go rfl ?_
    exact M.ret (M.go rfl (M.done (finQ.ret [] rfl rfl rfl (Wk.b1 (decide_eq_false (fun f => by have := f.n; unfold mayN at this; omega))) (by repeat' (first | exact True.intro | refine ⟨⟨_, _, _, rfl, rfl, rfl, WkO.rfl⟩, ?_⟩ | refine HeapOK.acc rfl rfl ?_ | refine HeapOK.es rfl rfl ?_)))))
  refine M.go rfl ?_
  refine M.dec rfl (fun g => ?_) (fun g8 => ?_)
  · refine M.go rfl ?_
    exact M.ret (M.go rfl (M.done (finQ.ret [] rfl rfl rfl (Wk.b1 (decide_eq_false (fun f => by have := f.n; unfold mayN at this; omega))) (by repeat' (first | exact True.intro | refine ⟨⟨_, _, _, rfl, rfl, rfl, WkO.rfl⟩, ?_⟩ | refine HeapOK.acc rfl rfl ?_ | refine HeapOK.es rfl rfl ?_)))))
  refine M.go rfl ?_
  refine M.dec rfl (fun g => ?_) (fun g9 => ?_)
  · refine M.go rfl ?_
    exact M.ret (M.go rfl (M.done (finQ.ret [] rfl rfl rfl (Wk.b1 (decide_eq_false (fun f => by have := f.n; unfold mayN at this; omega))) (by repeat' (first | exact True.intro | refine ⟨⟨_, _, _, rfl, rfl, rfl, WkO.rfl⟩, ?_⟩ | refine HeapOK.acc rfl rfl ?_ | refine HeapOK.es rfl rfl ?_)))))
  refine M.go rfl ?_
  refine M.dec rfl (fun g => ?_) (fun g10 => ?_)
  · refine M.go rfl ?_
    exact M.ret (M.go rfl (M.done (finQ.ret [] rfl rfl rfl (Wk.b1 (decide_eq_false (fun f => by have := f.n; unfold mayN at this; omega))) (by repeat' (first | exact True.intro | refine ⟨⟨_, _, _, rfl, rfl, rfl, WkO.rfl⟩, ?_⟩ | refine HeapOK.acc rfl rfl ?_ | refine HeapOK.es rfl rfl ?_)))))
  refine M.go rfl ?_
  refine M.dec rfl (fun g => ?_) (fun g11 => ?_)
  · refine M.go rfl ?_
    exact M.ret (M.go rfl (M.done (finQ.ret [] rfl rfl rfl (Wk.b1 (decide_eq_false (fun f => by have := f.n; unfold mayN at this; omega))) (by repeat' (first | exact True.intro | refine ⟨⟨_, _, _, rfl, rfl, rfl, WkO.rfl⟩, ?_⟩ | refine HeapOK.acc rfl rfl ?_ | refine HeapOK.es rfl rfl ?_)))))
  refine M.go rfl ?_
  refine M.dec rfl (fun g => ?_) (fun g12 => ?_)
  · refine M.go rfl ?_
    exact M.ret (M.go rfl (M.done (finQ.ret [] rfl rfl rfl (Wk.b1 (decide_eq_false (fun f => by have := f.n; unfold mayN at this; omega))) (by repeat' (first | exact True.intro | refine ⟨⟨_, _, _, rfl, rfl, rfl, WkO.rfl⟩, ?_⟩ | refine HeapOK.acc rfl rfl ?_ | refine HeapOK.es rfl rfl ?_)))))
  refine M.go rfl ?_
  refine M.dec rfl (fun g => ?_) (fun g13 => ?_)
  · refine M.go rfl ?_
    exact M.ret (M.go rfl (M.done (finQ.ret [] rfl rfl rfl (Wk.b1 (decide_eq_false (fun f => by have := f.n; unfold mayN at this; omega))) (by repeat' (first | exact True.intro | refine ⟨⟨_, _, _, rfl, rfl, rfl, WkO.rfl⟩, ?_⟩ | refine HeapOK.acc rfl rfl ?_ | refine HeapOK.es rfl rfl ?_)))))
  refine M.go rfl ?_
  refine M.cond rfl (fun g => ?_) (fun g14 => ?_)
  · refine M.go rfl ?_
    exact M.ret (M.go rfl (M.done (finQ.ret [] rfl rfl rfl (Wk.b1 (decide_eq_false (fun f => by have := f.n; unfold mayN at this; omega))) (by repeat' (first | exact True.intro | refine ⟨⟨_, _, _, rfl, rfl, rfl, WkO.rfl⟩, ?_⟩ | refine HeapOK.acc rfl rfl ?_ | refine HeapOK.es rfl rfl ?_)))))
  refine M.go rfl ?_
  refine M.dec rfl (fun g => ?_) (fun g15 => ?_)
  · refine M.go rfl ?_
    exact M.ret (M.go rfl (M.done (finQ.ret [] rfl rfl rfl (Wk.b1 (decide_eq_false (fun f => by have := f.n; unfold mayN at this; omega))) (by repeat' (first | exact True.intro | refine ⟨⟨_, _, _, rfl, rfl, rfl, WkO.rfl⟩, ?_⟩ | refine HeapOK.acc rfl rfl ?_ | refine HeapOK.es rfl rfl ?_)))))
  refine M.go rfl ?_
  refine M.dec rfl (fun g => ?_) (fun g16 => ?_)
  · refine M.go rfl ?_
    exact M.ret (M.go rfl (M.done (finQ.ret [] rfl rfl rfl (Wk.b1 (decide_eq_false (fun f => by have := f.n; unfold mayN at this; omega))) (by repeat' (first | exact True.intro | refine ⟨⟨_, _, _, rfl, rfl, rfl, WkO.rfl⟩, ?_⟩ | refine HeapOK.acc rfl rfl ?_ | refine HeapOK.es rfl rfl ?_)))))
  refine M.go rfl ?_
  refine M.dec rfl (fun g => ?_) (fun g17 => ?_)
  · refine M.go rfl ?_
    exact M.ret (M.go rfl (M.done (finQ.ret [] rfl rfl rfl (Wk.b1 (decide_eq_false (fun f => by have := f.n; unfold mayN at this; omega))) (by repeat' (first | exact True.intro | refine ⟨⟨_, _, _, rfl, rfl, rfl, WkO.rfl⟩, ?_⟩ | refine HeapOK.acc rfl rfl ?_ | refine HeapOK.es rfl rfl ?_)))))
  refine M.go rfl ?_
  refine M.dec rfl (fun g => ?_) (fun g18 => ?_)
  · refine M.go rfl ?_
    exact M.ret (M.go rfl (M.done (finQ.ret [] rfl rfl rfl (Wk.b1 (decide_eq_false (fun f => by have := f.n; unfold mayN at this; omega))) (by repeat' (first | exact True.intro | refine ⟨⟨_, _, _, rfl, rfl, rfl, WkO.rfl⟩, ?_⟩ | refine HeapOK.acc rfl rfl ?_ | refine HeapOK.es rfl rfl ?_)))))
  refine M.go rfl ?_
  refine M.dec rfl (fun g => ?_) (fun g19 => ?_)
  · refine M.go rfl ?_
    exact M.ret (M.go rfl (M.done (finQ.ret [] rfl rfl rfl (Wk.b1 (decide_eq_false (fun f => by have := f.n; unfold mayN at this; omega))) (by repeat' (first | exact True.intro | refine ⟨⟨_, _, _, rfl, rfl, rfl, WkO.rfl⟩, ?_⟩ | refine HeapOK.acc rfl rfl ?_ | refine HeapOK.es rfl rfl ?_)))))
  refine M.go rfl ?_
  refine M.dec rfl (fun g => ?_) (fun g20 => ?_)
  · refine M.go rfl ?_
    exact M.ret (M.go rfl (M.done (finQ.ret [] rfl rfl rfl (Wk.b1 (decide_eq_false (fun f => by have := f.n; unfold mayN at this; omega))) (by repeat' (first | exact True.intro | refine ⟨⟨_, _, _, rfl, rfl, rfl, WkO.rfl⟩, ?_⟩ | refine HeapOK.acc rfl rfl ?_ | refine HeapOK.es rfl rfl ?_)))))
  refine M.go rfl ?_
  refine M.dec rfl (fun g => ?_) (fun g21 => ?_)
  · refine M.go rfl ?_
    exact M.ret (M.go rfl (M.done (finQ.ret [] rfl rfl rfl (Wk.b1 (decide_eq_false (fun f => by have := f.n; unfold mayN at this; omega))) (by repeat' (first | exact True.intro | refine ⟨⟨_, _, _, rfl, rfl, rfl, WkO.rfl⟩, ?_⟩ | refine HeapOK.acc rfl rfl ?_ | refine HeapOK.es rfl rfl ?_)))))
  refine M.go rfl ?_
  refine M.cond rfl (fun g => ?_) (fun g22 => ?_)
  · refine M.go rfl ?_
    exact M.ret (M.go rfl (M.done (finQ.ret [] rfl rfl rfl (Wk.b1 (decide_eq_false (fun f => by have := f.n; unfold mayN at this; omega))) (by repeat' (first | exact True.intro | refine ⟨⟨_, _, _, rfl, rfl, rfl, WkO.rfl⟩, ?_⟩ | refine HeapOK.acc rfl rfl ?_ | refine HeapOK.es rfl rfl ?_)))))
  have N : mayN m := by unfold mayN; omega
  have hgo := rg_spec (base := base) m.ez m.es m.ix m.lt hm.es.1 hm.es.2 (by omega)
  by_cases hK : m.es.length = 0 ∨ m.kd = 5
  rotate_left
  · refine M.go rfl ?_
    refine M.dec rfl (fun k1 => ?_) (fun k1 => ?_)
    · refine M.go rfl ?_
      refine M.decN rfl (fun k5 => ?_) (fun k5 => absurd (.inr k5) hK)
      refine M.go rfl ?_
      exact M.ret (M.go rfl (M.done (finQ.ret [] rfl rfl rfl (Wk.b1 (decide_eq_false (fun f => hK f.k))) (by repeat' (first | exact True.intro | refine ⟨⟨_, _, _, rfl, rfl, rfl, WkO.rfl⟩, ?_⟩ | refine HeapOK.acc rfl rfl ?_ | refine HeapOK.es rfl rfl ?_)))))
    · rw [entP_len] at k1
      exact absurd (.inl (by omega)) hK
  refine M.goN 4 rfl ?_
  refine M.midV [(1, .c (.ptr 0 0)), (136, .c (.p (.bs (!decide (goodR m.ix m.lt m.es)))))] (hRe m) ?_ ?_
  · refine M.go rfl ?_
    refine M.dec rfl (fun k1 => ?_) (fun k1 => ?_)
    · rw [entP_len] at k1
      refine M.go rfl ?_
      refine M.decN rfl (fun k5 => absurd hK (by omega)) (fun k5 => ?_)
      refine M.go rfl ?_
      refine M.dec rfl (fun k8 => absurd k8 (by rw [entP_len]; have := hm.es.1; omega)) (fun _ => ?_)
      refine M.go rfl ?_
      refine M.use0 rfl hgo rfl rfl rfl ?_
      refine M.go rfl ?_
      exact M.done ⟨rfl, Sh.ren [(0, 0)] rfl (by repeat' (first | exact True.intro | refine ⟨⟨_, _, rfl, rfl, Wk.rfl⟩, ?_⟩ | refine ⟨⟨_, _, accV_ren rfl, rfl, Wk.rfl⟩, ?_⟩ | refine ⟨⟨_, _, accV_ren rfl, rfl, Wk.acc0⟩, ?_⟩ | refine ⟨⟨_, _, rfl, rfl, Wk.uncap⟩, ?_⟩ | refine ⟨⟨_, _, rfl, rfl, Wk.nil⟩, ?_⟩)) (by repeat' (first | exact True.intro | refine ⟨⟨_, _, _, rfl, rfl, rfl, WkO.rfl⟩, ?_⟩ | refine HeapOK.acc rfl rfl ?_ | refine HeapOK.es rfl rfl ?_))⟩
    · refine M.go rfl ?_
      refine M.dec rfl (fun k8 => absurd k8 (by rw [entP_len]; have := hm.es.1; omega)) (fun _ => ?_)
      refine M.go rfl ?_
      refine M.use0 rfl hgo rfl rfl rfl ?_
      refine M.go rfl ?_
      exact M.done ⟨rfl, Sh.ren [(0, 0)] rfl (by repeat' (first | exact True.intro | refine ⟨⟨_, _, rfl, rfl, Wk.rfl⟩, ?_⟩ | refine ⟨⟨_, _, accV_ren rfl, rfl, Wk.rfl⟩, ?_⟩ | refine ⟨⟨_, _, accV_ren rfl, rfl, Wk.acc0⟩, ?_⟩ | refine ⟨⟨_, _, rfl, rfl, Wk.uncap⟩, ?_⟩ | refine ⟨⟨_, _, rfl, rfl, Wk.nil⟩, ?_⟩)) (by repeat' (first | exact True.intro | refine ⟨⟨_, _, _, rfl, rfl, rfl, WkO.rfl⟩, ?_⟩ | refine HeapOK.acc rfl rfl ?_ | refine HeapOK.es rfl rfl ?_))⟩
  refine M.go rfl ?_
  refine M.condB rfl (fun g => ?_) (fun g => ?_)
  · refine M.go rfl ?_
    exact M.ret (M.go rfl (M.done (finQ.ret [] rfl rfl rfl (Wk.b1 (decide_eq_false (fun f => by rw [decide_eq_true ((good_eq _ _ _ _).1 f.e).1] at g; cases g))) (by repeat' (first | exact True.intro | refine ⟨⟨_, _, _, rfl, rfl, rfl, WkO.rfl⟩, ?_⟩ | refine HeapOK.acc rfl rfl ?_ | refine HeapOK.es rfl rfl ?_)))))
  have R : goodR m.ix m.lt m.es := by
    by_cases h : goodR m.ix m.lt m.es
    · exact h
    · rw [decide_eq_false h] at g; cases g
  refine M.go rfl ?_
  refine M.loop (XH.ren [(0, 0)] (fm_loop m hm.es.1 hm.es.2 _ (fun hA => ?_) (fun hA => ?_) m.es [] rfl (fun e he => by cases he)) rfl (by repeat' (first | exact True.intro | refine ⟨⟨_, _, rfl, rfl, Wk.rfl⟩, ?_⟩ | refine ⟨⟨_, _, accV_ren rfl, rfl, Wk.rfl⟩, ?_⟩ | refine ⟨⟨_, _, accV_ren rfl, rfl, Wk.acc0⟩, ?_⟩ | refine ⟨⟨_, _, rfl, rfl, Wk.uncap⟩, ?_⟩ | refine ⟨⟨_, _, rfl, rfl, Wk.nil⟩, ?_⟩)) (by repeat' (first | exact True.intro | refine ⟨⟨_, _, _, rfl, rfl, rfl, WkO.rfl⟩, ?_⟩ | refine HeapOK.acc rfl rfl ?_ | refine HeapOK.es rfl rfl ?_)))
  rotate_left
  · refine M.q (M.go rfl ?_)
    rw [decide_eq_false (p := MayP m) (fun f => hA ((good_eq _ _ _ _).1 f.e).2)]
    exact M.done (finQ.ret [] rfl rfl rfl (by first | exact Wk.rfl | exact Wk.uncap | exact Wk.nil | exact Wk.b1 rfl | exact Wk.t2 Wk.rfl (Wk.b1 rfl)) (by repeat' (first | exact True.intro | refine ⟨⟨_, _, _, rfl, rfl, rfl, WkO.rfl⟩, ?_⟩ | refine HeapOK.acc rfl rfl ?_ | refine HeapOK.es rfl rfl ?_)))
  have fin : MayP m ↔ mayS m := ⟨fun f => f.s, fun s => ⟨N, (good_eq _ _ _ _).2 ⟨R, hA⟩, hK, s⟩⟩
  refine M.q (M.go rfl ?_)
  refine M.condN rfl (fun h7 => ?_) (fun h7 => ?_)
  · have hs : mayS m ↔ m.cf.length = 0 ∧ m.d.length = 0 := by unfold mayS; rw [if_neg h7]
    refine M.go rfl ?_
    refine M.dec rfl (fun b1 => ?_) (fun b1 => ?_)
    · rw [inPn] at b1
      refine M.go rfl ?_
      exact M.ret (M.go rfl (M.done (finQ.ret [] rfl rfl rfl (Wk.b2 (decide_eq_decide.2 ⟨fun f => by rw [byPn]; have := (hs.1 f.s).2; omega, fun h => fin.2 (hs.2 ⟨by omega, by rw [byPn] at h; omega⟩)⟩)) (by repeat' (first | exact True.intro | refine ⟨⟨_, _, _, rfl, rfl, rfl, WkO.rfl⟩, ?_⟩ | refine HeapOK.acc rfl rfl ?_ | refine HeapOK.es rfl rfl ?_)))))
    · rw [inPn] at b1
      refine M.go rfl ?_
      exact M.ret (M.go rfl (M.done (finQ.ret [] rfl rfl rfl (Wk.b1 (decide_eq_false (fun f => b1 (by have := (hs.1 f.s).1; omega)))) (by repeat' (first | exact True.intro | refine ⟨⟨_, _, _, rfl, rfl, rfl, WkO.rfl⟩, ?_⟩ | refine HeapOK.acc rfl rfl ?_ | refine HeapOK.es rfl rfl ?_)))))
  · have hs : mayS m ↔ mayI m.cf = true ∧ m.d.length ≤ 64 ∧ 0 < m.ix := by unfold mayS; rw [if_pos h7]
    refine M.go rfl ?_
    refine M.use0 trivial (mbr_spec m.cz none m.cf (by have := hm.cf; omega)) rfl rfl rfl ?_
    refine M.go rfl ?_
    refine M.decB rfl (fun b1 => ?_) (fun b1 => ?_)
    · refine M.go rfl ?_
      refine M.dec rfl (fun b2 => ?_) (fun b2 => ?_)
      · rw [byPn] at b2
        refine M.go rfl ?_
        exact M.ret (M.go rfl (M.done (finQ.ret [] rfl rfl rfl (Wk.b2 (decide_eq_decide.2 ⟨fun f => (hs.1 f.s).2.2, fun h => fin.2 (hs.2 ⟨b1, by omega, h⟩)⟩)) (by repeat' (first | exact True.intro | refine ⟨⟨_, _, _, rfl, rfl, rfl, WkO.rfl⟩, ?_⟩ | refine HeapOK.acc rfl rfl ?_ | refine HeapOK.es rfl rfl ?_)))))
      · rw [byPn] at b2
        refine M.go rfl ?_
        exact M.ret (M.go rfl (M.done (finQ.ret [] rfl rfl rfl (Wk.b1 (decide_eq_false (fun f => b2 (by have := (hs.1 f.s).2.1; omega)))) (by repeat' (first | exact True.intro | refine ⟨⟨_, _, _, rfl, rfl, rfl, WkO.rfl⟩, ?_⟩ | refine HeapOK.acc rfl rfl ?_ | refine HeapOK.es rfl rfl ?_)))))
    · refine M.go rfl ?_
      exact M.ret (M.go rfl (M.done (finQ.ret [] rfl rfl rfl (Wk.b1 (decide_eq_false (fun f => by rw [(hs.1 f.s).1] at b1; cases b1))) (by repeat' (first | exact True.intro | refine ⟨⟨_, _, _, rfl, rfl, rfl, WkO.rfl⟩, ?_⟩ | refine HeapOK.acc rfl rfl ?_ | refine HeapOK.es rfl rfl ?_)))))
theorem begun22_spec : CallS Try.prog base 33 [] ⟨[], 0⟩ (.c (.p (.bool true))) ⟨[], 0⟩ := CallS.closed (m := 2000) mixed noNG (by kernel_rfl)
noncomputable def lRM : {F : LF // lowerF Try.prog 9 = some F} := ⟨_, rfl⟩
theorem RaftMay_spec (m : PMsg) (hm : m.raw) : CallS Try.prog base 9 [m.v] ⟨[], 0⟩ (.c (.p (.bool true))) ⟨[], 0⟩ := by
  have hs : m.cut.sm := ⟨⟨by simp [PMsg.cut]; omega, fun e he => by
    obtain ⟨x, hx, rfl⟩ := List.mem_map.1 he
    have := (hm.es.2 x (List.mem_of_mem_take hx)).d
    exact ⟨⟨by simp [Ent.cutM]; omega, fun b hb => this b (List.mem_of_mem_take hb)⟩⟩⟩, by simp [PMsg.cut]; omega, by simp [PMsg.cut]; omega⟩
  refine CallS.of noNG lRM.2 rfl (M.start (M.go rfl ?_))
  refine M.use0 trivial begun22_spec rfl rfl rfl ?_
  refine M.go rfl ?_
  refine M.use0 trivial (CutMsg_spec m hm.es.1 hm.cf) rfl rfl rfl ?_
  obtain ⟨c, hc⟩ : ∃ c, c = m.cut := ⟨_, rfl⟩
  rw [← hc] at hs ⊢
  refine M.go rfl ?_
  refine M.regF (MF.go rfl ?_)
  refine MF.use0 (by first | exact True.intro | exact rfl) (rmy_spec c hs) rfl rfl rfl (MF.go rfl ?_)
  refine MF.use0 (by first | exact True.intro | exact rfl) (fmy_spec c hs) rfl rfl rfl (MF.go rfl ?_)
  refine MF.nil mixed (Fnl.nodup rfl) rfl ⟨⟨stepX_ok rfl, trivial⟩, trivial⟩ (M.go rfl ?_)
  exact M.ret (M.go rfl (M.done (finQ.ret [] rfl rfl rfl (Wk.of (by simp [XV.sv, XC.sc, PC.sc])) (by repeat' (first | exact True.intro | refine ⟨⟨_, _, _, rfl, rfl, rfl, WkO.rfl⟩, ?_⟩ | refine HeapOK.acc rfl rfl ?_ | refine HeapOK.es rfl rfl ?_)))))
theorem RaftMay_law {p0 : PC} (h0 : Is tyMsg p0) : CallS Try.prog base 9 [xvP p0] ⟨[], 0⟩ (.c (.p (.bool true))) ⟨[], 0⟩ := by
  obtain ⟨m, rfl, hm⟩ := is_msg h0
  exact RaftMay_spec m hm
end Go.Proofs.Ytgaaffanoegbhaa
