/- The log: a new one, and what puts entries. -/
import Derived.Test.YteegdhfekemhmaaRl3
namespace Go.Proofs.Yteegdhfekemhmaa
open Go.RowKit Sim Go Sym
set_option maxRecDepth 100000
set_option linter.unusedVariables false
set_option linter.unusedSimpArgs false
variable {base : Nat}
/-! New. -/
noncomputable def lNew : {F : LF // lowerF Try.prog 31 = some F} := ⟨_, rfl⟩
def nrow (s : Snp) (x : XC) : List XC := [.p (.int .i64 s.ix), .p (.int .i64 s.tm), .p (.tz s.cz 1 (inP s.cf) s.cc), .p (.tz s.dz 1 (byP s.d) s.dc), x]
theorem new_loop (s : Snp) (z : Bool) (c : Option Nat) (l : List Ent) (hl : l.length ≤ 10000000000) (hok : ∀ e ∈ l, e.ok) (Q : QX) (hq : Q (.exit 0) [(5, .c (.ptr 0 0))] ⟨[(1, accO 4 (entP (l.map Ent.own))), (0, some (.row (nrow s (.acc 1 4 (entP (l.map Ent.own)))) true))], 2⟩) :
    ∀ (rest pre : List Ent), l = pre ++ rest → XH Try.prog base lNew.1.n 0 (lNew.1.c.lp 0) [(29, .c (.p (.tz z 4 (entP l) c))), (30, .c (.p (.int .i64 (entP l).length))), (31, .c (.p (.int .i64 pre.length))), (5, .c (.ptr 0 0))] ⟨[(1, accO 4 (entP (pre.map Ent.own))), (0, some (.row (nrow s (.acc 1 4 (entP (pre.map Ent.own)))) true))], 2⟩ Q := by
  intro rest
  induction rest with
  | nil =>
    intro pre hp
    refine M.round (M.go rfl ?_)
    simp at hp
    subst hp
    refine M.cond rfl (fun hc => ?_) (fun hc => ?_)
    · simp [entP] at hc
    · cases l with
      | nil =>
        refine M.ren [(0, 0), (1, 1)] ?_ trivial rfl (by repeat' (first | exact True.intro | refine ⟨⟨_, _, rfl, rfl, Wk.rfl⟩, ?_⟩ | refine ⟨⟨_, _, accV_ren rfl, rfl, Wk.rfl⟩, ?_⟩ | refine ⟨⟨_, _, accV_ren rfl, rfl, Wk.acc0⟩, ?_⟩ | refine ⟨⟨_, _, rfl, rfl, Wk.uncap⟩, ?_⟩ | refine ⟨⟨_, _, rfl, rfl, Wk.nil⟩, ?_⟩)) (by repeat' (first | exact True.intro | refine ⟨⟨_, _, _, rfl, rfl, rfl, WkO.rfl⟩, ?_⟩ | refine HeapOK.acc rfl rfl ?_)) (e' := [(5, .c (.ptr 0 0))]) (h' := ⟨[(1, accO 4 (entP (([] : List Ent).map Ent.own))), (0, some (.row (nrow s (.acc 1 4 (entP (([] : List Ent).map Ent.own)))) true))], 2⟩)
        exact M.exit (M.go rfl (M.done hq))
      | cons e0 l =>
        refine M.ren [(0, 0), (1, 1)] ?_ trivial rfl (by repeat' (first | exact True.intro | refine ⟨⟨_, _, rfl, rfl, Wk.rfl⟩, ?_⟩ | refine ⟨⟨_, _, accV_ren rfl, rfl, Wk.rfl⟩, ?_⟩ | refine ⟨⟨_, _, accV_ren rfl, rfl, Wk.acc0⟩, ?_⟩ | refine ⟨⟨_, _, rfl, rfl, Wk.uncap⟩, ?_⟩ | refine ⟨⟨_, _, rfl, rfl, Wk.nil⟩, ?_⟩)) (by repeat' (first | exact True.intro | refine ⟨⟨_, _, _, rfl, rfl, rfl, WkO.rfl⟩, ?_⟩ | refine HeapOK.acc rfl rfl ?_)) (e' := [(5, .c (.ptr 0 0))]) (h' := ⟨[(1, accO 4 (entP ((e0 :: l).map Ent.own))), (0, some (.row (nrow s (.acc 1 4 (entP ((e0 :: l).map Ent.own)))) true))], 2⟩)
        exact M.exit (M.go rfl (M.done hq))
  | cons e rest ih =>
    intro pre hp
    have he : e.ok := hok e (by rw [hp]; simp)
    have hlen : (entP l).length = pre.length + (rest.length + 1) := by rw [hp]; simp [entP]
    have hll : pre.length + rest.length < 10000000000 := by rw [hp] at hl; simp at hl; omega
    have hla : (entP (pre.map Ent.own)).length = pre.length := by simp [entP]
    have hw2 : IntKind.i64.wrap ((pre.length : Int) + 1) = ((pre ++ [e]).length : Int) := by rw [wr64 (by omega) (by omega)]; simp
    have ih' := ih (pre ++ [e]) (by rw [hp]; simp)
    rw [show entP ((pre ++ [e]).map Ent.own) = entP (pre.map Ent.own) ++ [e.own.pc] by simp [entP]] at ih'
    refine M.round (M.go rfl ?_)
    refine M.cond rfl (fun hc => ?_) (fun hc => ?_)
    · refine M.go rfl ?_
      have hu : (entP l)[((pre.length : Int)).toNat]? = some e.pc := by rw [hp]; exact at_app _ _ _ _
      refine M.op trivial (SOp.ia rfl rfl (by omega) hu) ?_
      refine M.op trivial (SOp.ldne rfl hu rfl rfl rfl) ?_
      refine M.go rfl ?_
      cases pre with
      | nil =>
        refine M.regF (MF.go rfl ?_)
        refine MF.use0 trivial (own_spec e he.d) rfl rfl rfl (MF.go rfl ?_)
        refine MF.op trivial (SOp.appA0 rfl rfl (.own rfl rfl) (by simp) (by simp)) (MF.go rfl (MF.nil mixed (Fnl.nodup rfl) rfl ⟨⟨stepX_ok rfl, stepX_ok rfl, trivial⟩, trivial⟩ (M.go rfl ?_)))
        rw [hw2]
        exact M.again (XH.ren [(0, 0), (1, 4)] ih' rfl (by repeat' (first | exact True.intro | refine ⟨⟨_, _, rfl, rfl, Wk.rfl⟩, ?_⟩ | refine ⟨⟨_, _, accV_ren rfl, rfl, Wk.rfl⟩, ?_⟩ | refine ⟨⟨_, _, accV_ren rfl, rfl, Wk.acc0⟩, ?_⟩ | refine ⟨⟨_, _, rfl, rfl, Wk.uncap⟩, ?_⟩ | refine ⟨⟨_, _, rfl, rfl, Wk.nil⟩, ?_⟩)) (by repeat' (first | exact True.intro | refine ⟨⟨_, _, _, rfl, rfl, rfl, WkO.rfl⟩, ?_⟩ | refine HeapOK.acc rfl rfl ?_)))
      | cons e0 pre =>
        refine M.regF (MF.go rfl ?_)
        refine MF.use0 trivial (own_spec e he.d) rfl rfl rfl (MF.go rfl ?_)
        refine MF.op trivial (SOp.appA rfl rfl rfl (.own rfl rfl) (by simp) (by simp [entP]; simp at hll; omega)) (MF.go rfl (MF.nil mixed (Fnl.nodup rfl) rfl ⟨⟨stepX_ok rfl, stepX_ok rfl, trivial⟩, trivial⟩ (M.go rfl ?_)))
        rw [hw2]
        exact M.again (XH.ren [(0, 0), (1, 4)] ih' rfl (by repeat' (first | exact True.intro | refine ⟨⟨_, _, rfl, rfl, Wk.rfl⟩, ?_⟩ | refine ⟨⟨_, _, accV_ren rfl, rfl, Wk.rfl⟩, ?_⟩ | refine ⟨⟨_, _, accV_ren rfl, rfl, Wk.acc0⟩, ?_⟩ | refine ⟨⟨_, _, rfl, rfl, Wk.uncap⟩, ?_⟩ | refine ⟨⟨_, _, rfl, rfl, Wk.nil⟩, ?_⟩)) (by repeat' (first | exact True.intro | refine ⟨⟨_, _, _, rfl, rfl, rfl, WkO.rfl⟩, ?_⟩ | refine HeapOK.acc rfl rfl ?_)))
    · rw [hlen] at hc; omega
def newOk (s : Snp) (l : List Ent) : Bool := !(decide (s.ix < 0) || (decide (s.tm < 0) || !mayF s.ix s.tm l))
theorem New_no (s : Snp) (hs : s.ok) (z : Bool) (c : Option Nat) (l : List Ent) (hl : l.length ≤ 10000000000) (hok : ∀ e ∈ l, e.ok) (hno : newOk s l = false) : CallS Try.prog base 31 [s.v, .c (.p (.tz z 4 (entP l) c))] ⟨[], 0⟩ (.c (.p .nilp)) ⟨[], 0⟩ := by
  refine CallS.of noNG lNew.2 rfl (M.start (M.go rfl ?_))
  refine M.dec rfl (fun h1 => ?_) (fun h1 => ?_)
  · refine M.go rfl ?_
    exact M.ret (M.go rfl (M.done (finQ.ret [] rfl rfl rfl (by first | exact Wk.rfl | exact Wk.uncap | exact Wk.nil | exact Wk.b1 rfl | exact Wk.t2 Wk.rfl (Wk.b1 rfl)) (by repeat' (first | exact True.intro | refine ⟨⟨_, _, _, rfl, rfl, rfl, WkO.rfl⟩, ?_⟩ | refine HeapOK.acc rfl rfl ?_)))))
  · refine M.go rfl ?_
    refine M.dec rfl (fun h2 => ?_) (fun h2 => ?_)
    · refine M.go rfl ?_
      exact M.ret (M.go rfl (M.done (finQ.ret [] rfl rfl rfl (by first | exact Wk.rfl | exact Wk.uncap | exact Wk.nil | exact Wk.b1 rfl | exact Wk.t2 Wk.rfl (Wk.b1 rfl)) (by repeat' (first | exact True.intro | refine ⟨⟨_, _, _, rfl, rfl, rfl, WkO.rfl⟩, ?_⟩ | refine HeapOK.acc rfl rfl ?_)))))
    · refine M.go rfl ?_
      refine M.use0 rfl (may_spec z c l s.ix s.tm (by omega) hok hs.ix) rfl rfl rfl ?_
      refine M.go rfl ?_
      have hm : mayF s.ix s.tm l = false := by simpa [newOk, h1, h2] using hno
      refine M.condB rfl (fun h3 => ?_) (fun h3 => ?_)
      · refine M.go rfl ?_
        exact M.ret (M.go rfl (M.done (finQ.ret [] rfl rfl rfl (by first | exact Wk.rfl | exact Wk.uncap | exact Wk.nil | exact Wk.b1 rfl | exact Wk.t2 Wk.rfl (Wk.b1 rfl)) (by repeat' (first | exact True.intro | refine ⟨⟨_, _, _, rfl, rfl, rfl, WkO.rfl⟩, ?_⟩ | refine HeapOK.acc rfl rfl ?_)))))
      · rw [hm] at h3; simp at h3
theorem New_yes (s : Snp) (hs : s.ok) (z : Bool) (c : Option Nat) (l : List Ent) (hl : l.length ≤ 10000000000) (hok : ∀ e ∈ l, e.ok) (hno : newOk s l = true) : CallS Try.prog base 31 [s.v, .c (.p (.tz z 4 (entP l) c))] ⟨[], 0⟩ (.c (.ptr 0 0)) (PLog.h ⟨s.own, l.map Ent.own, true, none⟩) := by
  refine CallS.of noNG lNew.2 rfl (M.start (M.go rfl ?_))
  have h1 : ¬ s.ix < 0 := fun h => by simp [newOk, h] at hno
  have h2 : ¬ s.tm < 0 := fun h => by simp [newOk, h] at hno
  have hm : mayF s.ix s.tm l = true := by simpa [newOk, h1, h2] using hno
  refine M.dec rfl (fun h => absurd h h1) (fun _ => ?_)
  · refine M.go rfl ?_
    refine M.dec rfl (fun h => absurd h h2) (fun _ => ?_)
    · refine M.go rfl ?_
      refine M.use0 rfl (may_spec z c l s.ix s.tm (by omega) hok hs.ix) rfl rfl rfl ?_
      refine M.go rfl ?_
      refine M.condB rfl (fun h3 => ?_) (fun _ => ?_)
      · rw [hm] at h3; simp at h3
      · refine M.go rfl ?_
        refine M.use0 trivial (ownS_spec s hs) rfl rfl rfl ?_
        refine M.go rfl ?_
        refine M.wkH (b0 := 1) (o' := .row (nrow s.own (.acc 2 4 [])) true) rfl rfl (WkO.row ⟨Wk.rfl, Wk.rfl, Wk.rfl, Wk.rfl, Wk.of rfl, trivial⟩) ?_
        refine M.loop (XH.ren [(0, 1), (1, 2)] (new_loop s.own z c l hl hok _ ?_ l [] rfl) rfl (by repeat' (first | exact True.intro | refine ⟨⟨_, _, rfl, rfl, Wk.rfl⟩, ?_⟩ | refine ⟨⟨_, _, accV_ren rfl, rfl, Wk.rfl⟩, ?_⟩ | refine ⟨⟨_, _, accV_ren rfl, rfl, Wk.acc0⟩, ?_⟩ | refine ⟨⟨_, _, rfl, rfl, Wk.uncap⟩, ?_⟩ | refine ⟨⟨_, _, rfl, rfl, Wk.nil⟩, ?_⟩)) (by repeat' (first | exact True.intro | refine ⟨⟨_, _, _, rfl, rfl, rfl, WkO.rfl⟩, ?_⟩ | refine HeapOK.acc rfl rfl ?_)))
        refine M.q (M.goN 2 rfl ?_)
        refine M.accFR (b0 := 0) (o := 4) (b := 1) rfl rfl rfl rfl rfl ?_
        refine M.go rfl ?_
        exact M.ret (M.go rfl (M.done (finQ.ret [(0, 0)] rfl rfl rfl (by first | exact Wk.rfl | exact Wk.uncap | exact Wk.nil | exact Wk.b1 rfl | exact Wk.t2 Wk.rfl (Wk.b1 rfl)) (by repeat' (first | exact True.intro | refine ⟨⟨_, _, _, rfl, rfl, rfl, WkO.rfl⟩, ?_⟩ | refine HeapOK.acc rfl rfl ?_)))))
/-- The first append to what stays: from then on it grows. -/
theorem appCA {P : Program} {n : Nat} {e : Env} {h : HS} {s bytes c : Nat} {x y : LX} {v : XC} {z : Bool} {ex el : List PC} {y0 : PC} {ey : List PC} (hx : xev e x = some (.c (.p (.tz z s ex (some c))))) (hy : xev e y = some (.c v)) (hel : ElsX h s v el) (h0 : el ≠ []) (hc : c < ex.length + el.length) (hb : (ex.length + el.length) * bytes ≤ 140737488355328) (he : ex ++ el = y0 :: ey) :
    SOp P n (.app s bytes x y) e h (.c (.acc h.next s (y0 :: ey))) (h.newO (.els s (y0 :: ey))) := by
  have := SOp.appC (P := P) (n := n) hx hy hel h0 hc hb
  rw [he, ← List.length_append, he] at this
  exact this.sv rfl
/-! Put. -/
noncomputable def lPut : {F : LF // lowerF Try.prog 38 = some F} := ⟨_, rfl⟩
theorem put_loop (s : Snp) (z : Bool) (c : Option Nat) (l : List Ent) (hl : l.length ≤ 10000000000) (hok : ∀ e ∈ l, e.ok) (Q : QX) :
    ∀ (rest pre : List Ent) (x0 : PC) (ex : List PC), l = pre ++ rest → ex.length + rest.length ≤ 100000000000 → (∀ y0 ey, y0 :: ey = x0 :: ex ++ entP (rest.map Ent.own) → Q (.exit 0) [(0, .c (.ptr 0 0))] ⟨[(1, some (.els 4 (y0 :: ey))), (0, some (.row (nrow s (.acc 1 4 (y0 :: ey))) true))], 2⟩) →
    XH Try.prog base lPut.1.n 1 (lPut.1.c.lp 0) [(65, .c (.p (.tz z 4 (entP l) c))), (66, .c (.p (.int .i64 (entP l).length))), (67, .c (.p (.int .i64 pre.length))), (0, .c (.ptr 0 0))] ⟨[(1, some (.els 4 (x0 :: ex))), (0, some (.row (nrow s (.acc 1 4 (x0 :: ex))) true))], 2⟩ Q := by
  intro rest
  induction rest with
  | nil =>
    intro pre x0 ex hp hx hq
    refine M.round (M.go rfl ?_)
    simp at hp
    subst hp
    refine M.cond rfl (fun hc => ?_) (fun hc => ?_)
    · simp [entP] at hc
    · refine M.ren [(0, 0), (1, 1)] ?_ trivial rfl (by repeat' (first | exact True.intro | refine ⟨⟨_, _, rfl, rfl, Wk.rfl⟩, ?_⟩ | refine ⟨⟨_, _, accV_ren rfl, rfl, Wk.rfl⟩, ?_⟩ | refine ⟨⟨_, _, accV_ren rfl, rfl, Wk.acc0⟩, ?_⟩ | refine ⟨⟨_, _, rfl, rfl, Wk.uncap⟩, ?_⟩ | refine ⟨⟨_, _, rfl, rfl, Wk.nil⟩, ?_⟩)) (by repeat' (first | exact True.intro | refine ⟨⟨_, _, _, rfl, rfl, rfl, WkO.rfl⟩, ?_⟩ | refine HeapOK.acc rfl rfl ?_)) (e' := [(0, .c (.ptr 0 0))]) (h' := ⟨[(1, some (.els 4 (x0 :: ex))), (0, some (.row (nrow s (.acc 1 4 (x0 :: ex))) true))], 2⟩)
      exact M.exit (M.go rfl (M.done (hq x0 ex (by simp [entP]))))
  | cons e rest ih =>
    intro pre x0 ex hp hx hq
    have he : e.ok := hok e (by rw [hp]; simp)
    have hlen : (entP l).length = pre.length + (rest.length + 1) := by rw [hp]; simp [entP]
    have hll : pre.length + rest.length < 10000000000 := by rw [hp] at hl; simp at hl; omega
    have hw2 : IntKind.i64.wrap ((pre.length : Int) + 1) = ((pre ++ [e]).length : Int) := by rw [wr64 (by omega) (by omega)]; simp
    simp only [List.length_cons] at hx
    have ih' := ih (pre ++ [e]) x0 (ex ++ [e.own.pc]) (by rw [hp]; simp) (by simp; omega) (fun y0 ey hy => hq y0 ey (by rw [hy]; simp [entP]))
    refine M.round (M.go rfl ?_)
    refine M.cond rfl (fun hc => ?_) (fun hc => ?_)
    · refine M.go rfl ?_
      have hu : (entP l)[((pre.length : Int)).toNat]? = some e.pc := by rw [hp]; exact at_app _ _ _ _
      refine M.op trivial (SOp.ia rfl rfl (by omega) hu) ?_
      refine M.op trivial (SOp.ldne rfl hu rfl rfl rfl) ?_
      refine M.go rfl ?_
      refine M.regF (MF.go rfl ?_)
      refine MF.use0 trivial (own_spec e he.d) rfl rfl rfl (MF.go rfl ?_)
      refine MF.op trivial (SOp.appA rfl rfl rfl (.own rfl rfl) (by simp) (by simp; omega)) (MF.go rfl (MF.nil mixed (Fnl.nodup rfl) rfl ⟨⟨stepX_ok rfl, stepX_ok rfl, trivial⟩, trivial⟩ (M.go rfl ?_)))
      rw [hw2]
      exact M.again (XH.ren [(0, 0), (1, 4)] ih' rfl (by repeat' (first | exact True.intro | refine ⟨⟨_, _, rfl, rfl, Wk.rfl⟩, ?_⟩ | refine ⟨⟨_, _, accV_ren rfl, rfl, Wk.rfl⟩, ?_⟩ | refine ⟨⟨_, _, accV_ren rfl, rfl, Wk.acc0⟩, ?_⟩ | refine ⟨⟨_, _, rfl, rfl, Wk.uncap⟩, ?_⟩ | refine ⟨⟨_, _, rfl, rfl, Wk.nil⟩, ?_⟩)) (by repeat' (first | exact True.intro | refine ⟨⟨_, _, _, rfl, rfl, rfl, WkO.rfl⟩, ?_⟩ | refine HeapOK.acc rfl rfl ?_)))
    · rw [hlen] at hc; omega
/-- The first one goes behind what was cut. -/
theorem put_first (s : Snp) (z : Bool) (c : Option Nat) (e : Ent) (l : List Ent) (hl : (e :: l).length ≤ 10000000000) (hok : ∀ e' ∈ e :: l, e'.ok) (z2 : Bool) (T : List PC) (hT : T.length ≤ 10000000000) (Q : QX) (hq : ∀ y0 ey, y0 :: ey = T ++ entP ((e :: l).map Ent.own) → Q (.exit 0) [(0, .c (.ptr 0 0))] ⟨[(1, some (.els 4 (y0 :: ey))), (0, some (.row (nrow s (.acc 1 4 (y0 :: ey))) true))], 2⟩) :
    XH Try.prog base lPut.1.n 1 (lPut.1.c.lp 0) [(65, .c (.p (.tz z 4 (entP (e :: l)) c))), (66, .c (.p (.int .i64 (entP (e :: l)).length))), (67, .c (.p (.int .i64 0))), (0, .c (.ptr 0 0))] ⟨[(0, some (.row (nrow s (.p (.tz z2 4 T (some T.length)))) true))], 1⟩ Q := by
  have he : e.ok := hok e (by simp)
  refine M.round (M.go rfl ?_)
  refine M.cond rfl (fun hc => ?_) (fun hc => ?_)
  · refine M.go rfl ?_
    have hu : (entP (e :: l))[((0 : Int)).toNat]? = some e.pc := rfl
    refine M.op trivial (SOp.ia rfl rfl (by omega) hu) ?_
    refine M.op trivial (SOp.ldne rfl hu rfl rfl rfl) ?_
    refine M.go rfl ?_
    refine M.regF (MF.go rfl ?_)
    refine MF.use0 trivial (own_spec e he.d) rfl rfl rfl (MF.go rfl ?_)
    obtain ⟨x0, ex, hx⟩ : ∃ x0 ex, T ++ [e.own.pc] = x0 :: ex := by cases T <;> simp
    refine MF.op trivial (appCA rfl rfl (.own rfl rfl) (by simp) (by simp) (by simp; omega) hx) (MF.go rfl (MF.nil mixed (Fnl.nodup rfl) rfl ⟨⟨stepX_ok rfl, stepX_ok rfl, trivial⟩, trivial⟩ (M.go rfl ?_)))
    have hxl : T.length + 1 = ex.length + 1 := by have := congrArg List.length hx; simpa using this
    have ih' := put_loop (base := base) s z c (e :: l) hl hok Q l [e] x0 ex rfl (by simp at hl; omega) (fun y0 ey hy => hq y0 ey (by rw [hy, ← hx]; simp [entP]))
    exact M.again (XH.ren [(0, 0), (1, 3)] ih' rfl (by repeat' (first | exact True.intro | refine ⟨⟨_, _, rfl, rfl, Wk.rfl⟩, ?_⟩ | refine ⟨⟨_, _, accV_ren rfl, rfl, Wk.rfl⟩, ?_⟩ | refine ⟨⟨_, _, accV_ren rfl, rfl, Wk.acc0⟩, ?_⟩ | refine ⟨⟨_, _, rfl, rfl, Wk.uncap⟩, ?_⟩ | refine ⟨⟨_, _, rfl, rfl, Wk.nil⟩, ?_⟩)) (by repeat' (first | exact True.intro | refine ⟨⟨_, _, _, rfl, rfl, rfl, WkO.rfl⟩, ?_⟩ | refine HeapOK.acc rfl rfl ?_)))
  · simp [entP] at hc
def PLog.frm (l : List Ent) : Int := (l.headD default).ix
def PLog.putOk (L : PLog) (l : List Ent) : Bool := match l with
  | [] => false
  | e :: _ => decide (L.S.ix < e.ix) && (decide (e.ix ≤ L.last + 1) && mayF (e.ix - 1) (L.term (e.ix - 1)).1 l)
def PLog.put (L : PLog) (l : List Ent) : PLog := ⟨L.S, L.E.take ((l.headD default).ix - L.S.ix - 1).toNat ++ l.map Ent.own, true, none⟩
theorem Put_nil (L : PLog) (z : Bool) (c : Option Nat) : CallS Try.prog base 38 [.c (.ptr 0 0), .c (.p (.tz z 4 [] c))] L.h (.c (.p (.bs false))) L.h := by
  refine CallS.of noNG lPut.2 rfl (M.start (M.go rfl ?_))
  refine M.condB rfl (fun h => ?_) (fun h => ?_)
  · refine M.go rfl ?_
    exact M.ret (M.go rfl (M.done (finQ.ret [(0, 0)] rfl rfl rfl (by first | exact Wk.rfl | exact Wk.uncap | exact Wk.nil | exact Wk.b1 rfl | exact Wk.t2 Wk.rfl (Wk.b1 rfl)) (by repeat' (first | exact True.intro | refine ⟨⟨_, _, _, rfl, rfl, rfl, WkO.rfl⟩, ?_⟩ | refine HeapOK.acc rfl rfl ?_)))))
  · exact absurd h (by decide)
theorem Put_no (L : PLog) (hL : L.ok) (hmax : L.last < 9223372036854775807) (z : Bool) (c : Option Nat) (e : Ent) (l : List Ent) (hl : (e :: l).length ≤ 10000000000) (hok : ∀ e' ∈ e :: l, e'.ok) (hno : L.putOk (e :: l) = false) : CallS Try.prog base 38 [.c (.ptr 0 0), .c (.p (.tz z 4 (entP (e :: l)) c))] L.h (.c (.p (.bs false))) L.h := by
  have he : e.ok := hok e (by simp)
  refine CallS.of noNG lPut.2 rfl (M.start (M.go rfl ?_))
  refine M.cond rfl (fun h => ?_) (fun h => ?_)
  · exfalso; simp [entP] at h; omega
  · refine M.go rfl ?_
    have hu : (entP (e :: l))[((0 : Int)).toNat]? = some e.pc := rfl
    refine M.op trivial (SOp.ia rfl rfl (by omega) hu) ?_
    refine M.go rfl ?_
    refine M.op trivial (SOp.ld1e rfl hu rfl rfl rfl) ?_
    refine M.go rfl ?_
    refine M.dec rfl (fun h1 => ?_) (fun h1 => ?_)
    · refine M.go rfl ?_
      exact M.ret (M.go rfl (M.done (finQ.ret [(0, 0)] rfl rfl rfl (by first | exact Wk.rfl | exact Wk.uncap | exact Wk.nil | exact Wk.b1 rfl | exact Wk.t2 Wk.rfl (Wk.b1 rfl)) (by repeat' (first | exact True.intro | refine ⟨⟨_, _, _, rfl, rfl, rfl, WkO.rfl⟩, ?_⟩ | refine HeapOK.acc rfl rfl ?_)))))
    · refine M.go rfl ?_
      refine M.use (by first | exact True.intro | exact rfl) (Last_spec L hL) [(0, 0)] rfl rfl rfl (by repeat' (first | exact True.intro | refine ⟨⟨_, _, _, rfl, rfl, rfl, WkO.rfl⟩, ?_⟩ | refine HeapOK.acc rfl rfl ?_)) rfl rfl ?_
      refine M.go rfl ?_
      have hw : IntKind.i64.wrap (L.last + 1) = L.last + 1 := wr64 (by unfold PLog.last; have := hL.ix; omega) (by omega)
      rw [hw]
      refine M.cond rfl (fun h2 => ?_) (fun h2 => ?_)
      · refine M.go rfl ?_
        exact M.ret (M.go rfl (M.done (finQ.ret [(0, 0)] rfl rfl rfl (by first | exact Wk.rfl | exact Wk.uncap | exact Wk.nil | exact Wk.b1 rfl | exact Wk.t2 Wk.rfl (Wk.b1 rfl)) (by repeat' (first | exact True.intro | refine ⟨⟨_, _, _, rfl, rfl, rfl, WkO.rfl⟩, ?_⟩ | refine HeapOK.acc rfl rfl ?_)))))
      · refine M.go rfl ?_
        have hw2 : IntKind.i64.wrap (e.ix - 1) = e.ix - 1 := wr64 (by have := hL.ix; omega) (by have := he.ix.2; omega)
        rw [hw2]
        have hi2 : I64 (e.ix - 1) := ⟨by have := hL.ix; omega, by have := he.ix.2; omega⟩
        refine M.use (by first | exact True.intro | exact rfl) (Term_spec L hL (e.ix - 1) hi2) [(0, 0)] rfl rfl rfl (by repeat' (first | exact True.intro | refine ⟨⟨_, _, _, rfl, rfl, rfl, WkO.rfl⟩, ?_⟩ | refine HeapOK.acc rfl rfl ?_)) rfl rfl ?_
        refine M.go rfl ?_
        rw [hw2]
        refine M.use0 trivial (may_spec z c (e :: l) (e.ix - 1) (L.term (e.ix - 1)).1 (by omega) hok hi2) rfl rfl rfl ?_
        refine M.go rfl ?_
        have hm : mayF (e.ix - 1) (L.term (e.ix - 1)).1 (e :: l) = false := by
          have h3 : L.S.ix < e.ix := by omega
          have h4 : e.ix ≤ L.last + 1 := by omega
          simpa [PLog.putOk, h3, h4] using hno
        refine M.condB rfl (fun h5 => ?_) (fun h5 => ?_)
        · refine M.go rfl ?_
          exact M.ret (M.go rfl (M.done (finQ.ret [(0, 0)] rfl rfl rfl (by first | exact Wk.rfl | exact Wk.uncap | exact Wk.nil | exact Wk.b1 rfl | exact Wk.t2 Wk.rfl (Wk.b1 rfl)) (by repeat' (first | exact True.intro | refine ⟨⟨_, _, _, rfl, rfl, rfl, WkO.rfl⟩, ?_⟩ | refine HeapOK.acc rfl rfl ?_)))))
        · rw [hm] at h5; simp at h5
theorem Put_yes (L : PLog) (hL : L.ok) (hmax : L.last < 9223372036854775807) (z : Bool) (c : Option Nat) (e : Ent) (l : List Ent) (hl : (e :: l).length ≤ 10000000000) (hok : ∀ e' ∈ e :: l, e'.ok) (hno : L.putOk (e :: l) = true) : CallS Try.prog base 38 [.c (.ptr 0 0), .c (.p (.tz z 4 (entP (e :: l)) c))] L.h (.c (.p (.bs true))) (L.put (e :: l)).h := by
  have he : e.ok := hok e (by simp)
  simp only [PLog.putOk, Bool.and_eq_true, decide_eq_true_eq] at hno
  obtain ⟨h3, h4, hm⟩ := hno
  refine CallS.of noNG lPut.2 rfl (M.start (M.go rfl ?_))
  refine M.cond rfl (fun h => ?_) (fun h => ?_)
  · exfalso; simp [entP] at h; omega
  · refine M.go rfl ?_
    have hu : (entP (e :: l))[((0 : Int)).toNat]? = some e.pc := rfl
    refine M.op trivial (SOp.ia rfl rfl (by omega) hu) ?_
    refine M.go rfl ?_
    refine M.op trivial (SOp.ld1e rfl hu rfl rfl rfl) ?_
    refine M.go rfl ?_
    refine M.dec rfl (fun h1 => absurd h1 (by omega)) (fun h1 => ?_)
    · refine M.go rfl ?_
      refine M.use (by first | exact True.intro | exact rfl) (Last_spec L hL) [(0, 0)] rfl rfl rfl (by repeat' (first | exact True.intro | refine ⟨⟨_, _, _, rfl, rfl, rfl, WkO.rfl⟩, ?_⟩ | refine HeapOK.acc rfl rfl ?_)) rfl rfl ?_
      refine M.go rfl ?_
      have hw : IntKind.i64.wrap (L.last + 1) = L.last + 1 := wr64 (by unfold PLog.last; have := hL.ix; omega) (by omega)
      rw [hw]
      refine M.cond rfl (fun h2 => absurd h2 (by omega)) (fun h2 => ?_)
      · refine M.go rfl ?_
        have hw2 : IntKind.i64.wrap (e.ix - 1) = e.ix - 1 := wr64 (by have := hL.ix; omega) (by have := he.ix.2; omega)
        rw [hw2]
        have hi2 : I64 (e.ix - 1) := ⟨by have := hL.ix; omega, by have := he.ix.2; omega⟩
        refine M.use (by first | exact True.intro | exact rfl) (Term_spec L hL (e.ix - 1) hi2) [(0, 0)] rfl rfl rfl (by repeat' (first | exact True.intro | refine ⟨⟨_, _, _, rfl, rfl, rfl, WkO.rfl⟩, ?_⟩ | refine HeapOK.acc rfl rfl ?_)) rfl rfl ?_
        refine M.go rfl ?_
        rw [hw2]
        refine M.use0 trivial (may_spec z c (e :: l) (e.ix - 1) (L.term (e.ix - 1)).1 (by omega) hok hi2) rfl rfl rfl ?_
        refine M.go rfl ?_
        refine M.condB rfl (fun h5 => ?_) (fun _ => ?_)
        · rw [hm] at h5; simp at h5
        · refine M.go rfl ?_
          refine M.regD (MD.go rfl ?_)
          have hw3 : IntKind.i64.wrap (IntKind.i64.wrap (e.ix - L.S.ix) - 1) = e.ix - L.S.ix - 1 := hL.wrap he.ix h3
          rw [hw3]
          have hle : (e.ix - L.S.ix - 1).toNat ≤ (entP L.E).length := by rw [entP_len]; unfold PLog.last at h4; omega
          refine MD.op trivial (SOp.sl rfl rfl ⟨_, _, rfl, by omega, rfl⟩ (Nat.zero_le _) hle) (MD.go rfl ?_)
          have hd : ((entP L.E).drop 0).take ((e.ix - L.S.ix - 1).toNat - 0) = entP (L.E.take (e.ix - L.S.ix - 1).toNat) := by simp [entP]
          rw [hd]
          refine MD.use0 trivial (Clip_spec _ (entP (L.E.take (e.ix - L.S.ix - 1).toNat)) _) rfl rfl rfl (MD.go rfl (MD.nil mixed (Fnl.nodup rfl) (M.go rfl ?_)))
          have hT : (entP (L.E.take (e.ix - L.S.ix - 1).toNat)).length ≤ 10000000000 := by rw [entP_len]; have := hL.len; simp; omega
          refine M.loop (XH.ren [(0, 0)] (put_first L.S z c e l hl hok _ (entP (L.E.take (e.ix - L.S.ix - 1).toNat)) hT _ (fun y0 ey hy => ?_)) rfl (by repeat' (first | exact True.intro | refine ⟨⟨_, _, rfl, rfl, Wk.rfl⟩, ?_⟩ | refine ⟨⟨_, _, accV_ren rfl, rfl, Wk.rfl⟩, ?_⟩ | refine ⟨⟨_, _, accV_ren rfl, rfl, Wk.acc0⟩, ?_⟩ | refine ⟨⟨_, _, rfl, rfl, Wk.uncap⟩, ?_⟩ | refine ⟨⟨_, _, rfl, rfl, Wk.nil⟩, ?_⟩)) (by repeat' (first | exact True.intro | refine ⟨⟨_, _, _, rfl, rfl, rfl, WkO.rfl⟩, ?_⟩ | refine HeapOK.acc rfl rfl ?_)))
          refine M.q (M.goN 2 rfl ?_)
          refine M.accFR (b0 := 0) (o := 4) (b := 1) rfl rfl rfl rfl rfl ?_
          refine M.go rfl ?_
          rw [show L.put (e :: l) = ⟨L.S, L.E.take (e.ix - L.S.ix - 1).toNat ++ (e :: l).map Ent.own, true, none⟩ from rfl]
          have hy2 : y0 :: ey = entP (L.E.take (e.ix - L.S.ix - 1).toNat ++ (e :: l).map Ent.own) := by rw [hy]; simp [entP]
          rw [hy2]
          exact M.ret (M.go rfl (M.done (finQ.ret [(0, 0)] rfl rfl rfl (by first | exact Wk.rfl | exact Wk.uncap | exact Wk.nil | exact Wk.b1 rfl | exact Wk.t2 Wk.rfl (Wk.b1 rfl)) (by repeat' (first | exact True.intro | refine ⟨⟨_, _, _, rfl, rfl, rfl, WkO.rfl⟩, ?_⟩ | refine HeapOK.acc rfl rfl ?_)))))
end Go.Proofs.Yteegdhfekemhmaa
