/- Texts of this claim, several in one: SimN, Rl1, Rl2, Rl3, Rl4, Rl5, Rl6, Rl7, Rl11, Rl12, Rl13, Rl14, Rl15, Rl16, Rl17, Rl18, Rl19, Rl20. -/
import Derived.Test.YteegdhfekemhmaaMgLogAll9
import Derived.Test.YteegdhfekemhmaaChecked
import Derived.Test.YteegdhfekemhmaaRows
/- Closed statements, reckoned by the kernel on the plain machine. -/
namespace Go.Proofs.Yteegdhfekemhmaa
open Go.RowKit Sim

theorem mixed : Try.prog.follows .mixedOrders = true := by kernel_rfl
theorem noNG (f : FuncId) (fn : Func) (h : Try.prog.funcs[f]? = some fn) : (fn.name == "runtime.NumGoroutine") = false := by
  have h1 : Try.prog.funcs.all (fun fn => !(fn.name == "runtime.NumGoroutine")) = true := by kernel_rfl
  have h2 := Array.all_eq_true'.1 h1 fn (Array.mem_of_getElem? h)
  simpa using h2
end Go.Proofs.Yteegdhfekemhmaa

/- The log's own words: entries, snapshots; which entries may stand behind one another. -/
namespace Go.Proofs.Yteegdhfekemhmaa
open Go.RowKit Sim Go Sym
set_option maxRecDepth 100000
set_option linter.unusedVariables false
set_option linter.unusedSimpArgs false
variable {base : Nat}
structure Ent where
  ix : Int
  tm : Int
  kd : Int
  z : Bool
  d : List Nat
  c : Option Nat
def Ent.cs (e : Ent) : List PC := [.int .i64 e.ix, .int .i64 e.tm, .int .i64 e.kd, .tz e.z 1 (byP e.d) e.c]
def Ent.pc (e : Ent) : PC := .agg e.cs
def entP (l : List Ent) : List PC := l.map Ent.pc
def I64 (n : Int) : Prop := -9223372036854775808 ≤ n ∧ n ≤ 9223372036854775807
def okB (l : List Nat) : Prop := l.length ≤ 100000000000 ∧ ∀ b ∈ l, b < 256
structure Ent.ok (e : Ent) : Prop where
  ix : I64 e.ix
  tm : I64 e.tm
  kd : I64 e.kd
  d : okB e.d
theorem entP_at (pre rest : List Ent) (e : Ent) : (entP (pre ++ e :: rest))[((pre.length : Int)).toNat]? = some e.pc := at_app _ _ _ _
/-! Members. -/
noncomputable def lMem : {F : LF // lowerF Try.prog 94 = some F} := ⟨_, rfl⟩
/-- Each one is greater than the one ahead, all from 1 to 7. -/
def memB : Nat → List Nat → Bool
  | _, [] => true
  | p, b :: l => (decide (p < b) && decide (b ≤ 7)) && memB b l
def memL (l : List Nat) : List Nat := if memB 0 l = true then l else []
def nums (l : List Nat) : List PC := inP (l.map fun (b : Nat) => (b : Int))
theorem memB_app : ∀ (l r : List Nat) (p : Nat), memB p (l ++ r) = (memB p l && memB (l.getLast?.getD p) r)
  | [], r, p => by simp [memB]
  | b :: l, r, p => by
    have : (b :: l).getLast?.getD p = l.getLast?.getD b := by cases l <;> simp [List.getLast?_cons]
    rw [List.cons_append, memB, memB, memB_app l r b, this]; simp only [Bool.and_assoc]
def memE (v : XV) (z : Bool) (c : Option Nat) (l pre : List Nat) (b : Nat) : Env := [(31, v), (3, accV 0 1 (nums pre)), (5, .c (.p (.int .u8 b))), (0, .c (.p (.tz z 1 (byP l) c))), (6, .c (.p (.tz z 1 (byP l) c))), (7, .c (.p (.int .i64 (byP l).length))), (8, .c (.p (.int .i64 pre.length)))]
theorem members_loop (z : Bool) (c : Option Nat) (l : List Nat) (hl : okB l) (Q : QX) (hq : memB 0 l = true → Q (.exit 0) [(3, accV 0 1 (nums l))] ⟨[(0, accO 1 (nums l))], 1⟩) (hr : memB 0 l = false → Q .ret [(2, .c (.p (.tz true 1 [] none)))] ⟨[], 0⟩) :
    ∀ (rest pre : List Nat), l = pre ++ rest → memB 0 pre = true → XH Try.prog base lMem.1.n 0 (lMem.1.c.lp 0) [(0, .c (.p (.tz z 1 (byP l) c))), (6, .c (.p (.tz z 1 (byP l) c))), (7, .c (.p (.int .i64 (byP l).length))), (8, .c (.p (.int .i64 pre.length))), (3, accV 0 1 (nums pre))] ⟨[(0, accO 1 (nums pre))], 1⟩ Q := by
  intro rest
  induction rest with
  | nil =>
    intro pre hp hm
    refine M.round (M.go rfl ?_)
    simp at hp
    subst hp
    refine M.cond rfl (fun hc => ?_) (fun hc => ?_)
    · simp [byP] at hc
    · refine M.ren [(0, 0)] ?_ trivial rfl ⟨⟨_, _, accV_ren rfl, rfl, Wk.rfl⟩, trivial⟩ (.acc rfl rfl trivial) (e' := [(3, accV 0 1 (nums l))]) (h' := ⟨[(0, accO 1 (nums l))], 1⟩)
      exact M.exit (M.go rfl (M.done (hq hm)))
  | cons b rest ih =>
    intro pre hp hm
    have hbl : b < 256 := hl.2 b (by rw [hp]; simp)
    have hlen : (byP l).length = pre.length + (rest.length + 1) := by rw [hp]; simp [byP]
    have hll : pre.length + rest.length < 10000000000000 := by have := hl.1; rw [hp] at this; simp at this; omega
    refine M.round (M.go rfl ?_)
    refine M.cond rfl (fun hc => ?_) (fun hc => ?_)
    · refine M.go rfl ?_
      have hu : (byP l)[((pre.length : Int)).toNat]? = some (.int .u8 b) := by rw [hp]; exact at_app _ _ _ _
      refine M.op trivial (SOp.ia rfl rfl (by omega) hu) ?_
      refine M.op trivial (SOp.ld1e rfl hu rfl rfl rfl) ?_
      refine M.go rfl ?_
      obtain ⟨T, hT⟩ : ∃ T, T = (decide (pre.getLast?.getD 0 < b) && decide (b ≤ 7)) := ⟨_, rfl⟩
      have hmb : memB 0 l = (T && memB b rest) := by rw [hp, memB_app, hm, Bool.true_and, memB, hT]
      refine M.mid (memE (.c (.p (.bs (!T)))) z c l pre b) ⟨[(0, accO 1 (nums pre))], 1⟩ ?_ ?_
      · refine M.dec rfl (fun h1 => ?_) (fun h1 => ?_)
        · exact M.go rfl (M.end [(0, 0)] rfl ⟨⟨_, _, rfl, rfl, Wk.b1 (by rw [hT, decide_eq_false (p := _ < b) (by omega)]; rfl)⟩, (by repeat' (first | exact True.intro | refine ⟨⟨_, _, rfl, rfl, Wk.rfl⟩, ?_⟩ | refine ⟨⟨_, _, accV_ren rfl, rfl, Wk.rfl⟩, ?_⟩ | refine ⟨⟨_, _, accV_ren rfl, rfl, Wk.acc0⟩, ?_⟩ | refine ⟨⟨_, _, rfl, rfl, Wk.uncap⟩, ?_⟩ | refine ⟨⟨_, _, rfl, rfl, Wk.nil⟩, ?_⟩))⟩ (by repeat' (first | exact True.intro | refine ⟨⟨_, _, _, rfl, rfl, rfl, WkO.rfl⟩, ?_⟩ | refine HeapOK.acc rfl rfl ?_)))
        · refine M.go rfl ?_
          refine M.dec rfl (fun h2 => ?_) (fun h2 => ?_)
          · exact M.go rfl (M.end [(0, 0)] rfl ⟨⟨_, _, rfl, rfl, Wk.b1 (by rw [hT, decide_eq_false (p := b ≤ 7) (by omega)]; simp)⟩, (by repeat' (first | exact True.intro | refine ⟨⟨_, _, rfl, rfl, Wk.rfl⟩, ?_⟩ | refine ⟨⟨_, _, accV_ren rfl, rfl, Wk.rfl⟩, ?_⟩ | refine ⟨⟨_, _, accV_ren rfl, rfl, Wk.acc0⟩, ?_⟩ | refine ⟨⟨_, _, rfl, rfl, Wk.uncap⟩, ?_⟩ | refine ⟨⟨_, _, rfl, rfl, Wk.nil⟩, ?_⟩))⟩ (by repeat' (first | exact True.intro | refine ⟨⟨_, _, _, rfl, rfl, rfl, WkO.rfl⟩, ?_⟩ | refine HeapOK.acc rfl rfl ?_)))
          · refine M.go rfl ?_
            have e2 : decide (b ≤ 7) = true := by simp; omega
            refine M.dec rfl (fun h3 => ?_) (fun h3 => ?_)
            · refine M.go rfl ?_
              obtain ⟨p0, q, rfl⟩ : ∃ p0 q, pre = p0 ++ [q] := ⟨_, _, (List.dropLast_concat_getLast (by rintro rfl; simp at h3)).symm⟩
              have hw : IntKind.i64.wrap (((p0 ++ [q]).length : Int) - 1) = p0.length := by
                rw [wr64 (by simp) (by simp at hll ⊢; omega)]; simp
              rw [hw]
              have hu' : (byP l)[((p0.length : Int)).toNat]? = some (.int .u8 q) := by rw [hp, List.append_assoc]; exact at_app _ _ _ _
              refine M.op rfl (SOp.ia rfl rfl (by omega) hu') ?_
              refine M.op rfl (SOp.ld1e rfl hu' rfl rfl rfl) ?_
              refine M.go rfl (M.end [(0, 0)] rfl ⟨⟨_, _, rfl, rfl, Wk.b2 ?_⟩, (by repeat' (first | exact True.intro | refine ⟨⟨_, _, rfl, rfl, Wk.rfl⟩, ?_⟩ | refine ⟨⟨_, _, accV_ren rfl, rfl, Wk.rfl⟩, ?_⟩ | refine ⟨⟨_, _, accV_ren rfl, rfl, Wk.acc0⟩, ?_⟩ | refine ⟨⟨_, _, rfl, rfl, Wk.uncap⟩, ?_⟩ | refine ⟨⟨_, _, rfl, rfl, Wk.nil⟩, ?_⟩))⟩ (by repeat' (first | exact True.intro | refine ⟨⟨_, _, _, rfl, rfl, rfl, WkO.rfl⟩, ?_⟩ | refine HeapOK.acc rfl rfl ?_)))
              have e1 : (p0 ++ [q]).getLast?.getD 0 = q := by simp
              rw [hT, e1, e2, Bool.and_true]
              by_cases hq : b ≤ q
              · rw [decide_eq_true (p := (b : Int) ≤ q) (by omega), decide_eq_false (p := q < b) (by omega)]; rfl
              · rw [decide_eq_false (p := (b : Int) ≤ q) (by omega), decide_eq_true (p := q < b) (by omega)]; rfl
            · refine M.go rfl (M.end [(0, 0)] rfl ⟨⟨_, _, rfl, rfl, Wk.b1 ?_⟩, (by repeat' (first | exact True.intro | refine ⟨⟨_, _, rfl, rfl, Wk.rfl⟩, ?_⟩ | refine ⟨⟨_, _, accV_ren rfl, rfl, Wk.rfl⟩, ?_⟩ | refine ⟨⟨_, _, accV_ren rfl, rfl, Wk.acc0⟩, ?_⟩ | refine ⟨⟨_, _, rfl, rfl, Wk.uncap⟩, ?_⟩ | refine ⟨⟨_, _, rfl, rfl, Wk.nil⟩, ?_⟩))⟩ (by repeat' (first | exact True.intro | refine ⟨⟨_, _, _, rfl, rfl, rfl, WkO.rfl⟩, ?_⟩ | refine HeapOK.acc rfl rfl ?_)))
              have : pre = [] := List.eq_nil_of_length_eq_zero (by omega)
              subst this
              rw [hT, e2, decide_eq_true (by simp; omega)]; rfl
      · refine M.go rfl ?_
        refine M.condB rfl (fun hc => ?_) (fun hc => ?_)
        · refine M.go rfl ?_
          refine M.ren [] ?_ trivial rfl (by repeat' (first | exact True.intro | refine ⟨⟨_, _, rfl, rfl, Wk.rfl⟩, ?_⟩ | refine ⟨⟨_, _, accV_ren rfl, rfl, Wk.rfl⟩, ?_⟩ | refine ⟨⟨_, _, accV_ren rfl, rfl, Wk.acc0⟩, ?_⟩ | refine ⟨⟨_, _, rfl, rfl, Wk.uncap⟩, ?_⟩ | refine ⟨⟨_, _, rfl, rfl, Wk.nil⟩, ?_⟩)) (by repeat' (first | exact True.intro | refine ⟨⟨_, _, _, rfl, rfl, rfl, WkO.rfl⟩, ?_⟩ | refine HeapOK.acc rfl rfl ?_)) (e' := [(2, .c (.p (.tz true 1 [] none)))]) (h' := ⟨[], 0⟩)
          exact M.ret (M.go rfl (M.done (hr (by rw [hmb]; rw [Bool.not_eq_true'] at hc; rw [hc]; rfl))))
        · refine M.go rfl ?_
          have hbb : T = true := by simpa using hc
          have ih' := ih (pre ++ [b]) (by rw [hp]; simp) (by rw [memB_app, hm, Bool.true_and, memB, memB, ← hT, hbb]; rfl)
          have hw : IntKind.i64.wrap (b : Int) = b := wr64 (by omega) (by omega)
          have hw2 : IntKind.i64.wrap ((pre.length : Int) + 1) = ((pre ++ [b]).length : Int) := by rw [wr64 (by omega) (by omega)]; simp
          rw [hw]
          rw [show nums (pre ++ [b]) = nums pre ++ [.int .i64 b] by simp [nums, inP]] at ih'
          refine M.acc trivial rfl rfl rfl (.own rfl rfl) (by simp) (by simp [nums, inP]; omega) ?_
          refine M.go rfl ?_
          rw [hw2]
          exact M.again (XH.ren [(0, 2)] ih' rfl (by repeat' (first | exact True.intro | refine ⟨⟨_, _, rfl, rfl, Wk.rfl⟩, ?_⟩ | refine ⟨⟨_, _, accV_ren rfl, rfl, Wk.rfl⟩, ?_⟩ | refine ⟨⟨_, _, accV_ren rfl, rfl, Wk.acc0⟩, ?_⟩ | refine ⟨⟨_, _, rfl, rfl, Wk.uncap⟩, ?_⟩ | refine ⟨⟨_, _, rfl, rfl, Wk.nil⟩, ?_⟩)) (by repeat' (first | exact True.intro | refine ⟨⟨_, _, _, rfl, rfl, rfl, WkO.rfl⟩, ?_⟩ | refine HeapOK.acc rfl rfl ?_)))
    · rw [hlen] at hc; omega
theorem members_spec (z : Bool) (c : Option Nat) (l : List Nat) (hl : okB l) : CallS Try.prog base 94 [.c (.p (.tz z 1 (byP l) c))] ⟨[], 0⟩ (.c (.p (.tz true 1 (nums (memL l)) none))) ⟨[], 0⟩ := by
  refine CallS.of noNG lMem.2 rfl (M.start (M.go rfl ?_))
  refine M.loop (XH.ren [(0, 0)] (members_loop z c l hl _ ?_ ?_ l [] rfl rfl) rfl (by repeat' (first | exact True.intro | refine ⟨⟨_, _, rfl, rfl, Wk.rfl⟩, ?_⟩ | refine ⟨⟨_, _, accV_ren rfl, rfl, Wk.rfl⟩, ?_⟩ | refine ⟨⟨_, _, accV_ren rfl, rfl, Wk.acc0⟩, ?_⟩ | refine ⟨⟨_, _, rfl, rfl, Wk.uncap⟩, ?_⟩ | refine ⟨⟨_, _, rfl, rfl, Wk.nil⟩, ?_⟩)) (by repeat' (first | exact True.intro | refine ⟨⟨_, _, _, rfl, rfl, rfl, WkO.rfl⟩, ?_⟩ | refine HeapOK.acc rfl rfl ?_)))
  · intro hm
    refine M.q (M.go rfl ?_)
    refine M.accF (i := 2) rfl rfl ?_
    refine M.ren [] ?_ trivial rfl (by repeat' (first | exact True.intro | refine ⟨⟨_, _, rfl, rfl, Wk.rfl⟩, ?_⟩ | refine ⟨⟨_, _, accV_ren rfl, rfl, Wk.rfl⟩, ?_⟩ | refine ⟨⟨_, _, accV_ren rfl, rfl, Wk.acc0⟩, ?_⟩ | refine ⟨⟨_, _, rfl, rfl, Wk.uncap⟩, ?_⟩ | refine ⟨⟨_, _, rfl, rfl, Wk.nil⟩, ?_⟩)) (by repeat' (first | exact True.intro | refine ⟨⟨_, _, _, rfl, rfl, rfl, WkO.rfl⟩, ?_⟩ | refine HeapOK.acc rfl rfl ?_)) (e' := [(2, .c (.p (.tz true 1 (nums l) none)))]) (h' := ⟨[], 0⟩)
    rw [memL, if_pos hm]
    exact M.ret (M.go rfl (M.done (finQ.ret [] rfl rfl rfl (by first | exact Wk.rfl | exact Wk.uncap | exact Wk.nil | exact Wk.b1 rfl | exact Wk.t2 Wk.rfl (Wk.b1 rfl)) (by repeat' (first | exact True.intro | refine ⟨⟨_, _, _, rfl, rfl, rfl, WkO.rfl⟩, ?_⟩ | refine HeapOK.acc rfl rfl ?_)))))
  · intro hm
    refine M.q (M.go rfl ?_)
    rw [memL, if_neg (by rw [hm]; simp)]
    exact M.done (finQ.ret [] rfl rfl rfl (by first | exact Wk.rfl | exact Wk.uncap | exact Wk.nil | exact Wk.b1 rfl | exact Wk.t2 Wk.rfl (Wk.b1 rfl)) (by repeat' (first | exact True.intro | refine ⟨⟨_, _, _, rfl, rfl, rfl, WkO.rfl⟩, ?_⟩ | refine HeapOK.acc rfl rfl ?_)))
/-! Clones. -/
noncomputable def lBcl : {F : LF // lowerF Try.prog 96 = some F} := ⟨_, rfl⟩
theorem Bcl_spec (z : Bool) (el : List PC) (c : Option Nat) (hl : el.length ≤ 1000000000000) : CallS Try.prog base 96 [.c (.p (.tz z 1 el c))] ⟨[], 0⟩ (.c (.p (.tz z 1 el none))) ⟨[], 0⟩ := by
  refine CallS.of noNG lBcl.2 rfl (M.start (M.go rfl ?_))
  refine M.condB rfl (fun hc => ?_) (fun hc => ?_)
  · refine M.go rfl ?_
    obtain ⟨rfl, rfl⟩ : z = true ∧ el = [] := by simpa using hc
    refine M.ren [] ?_ trivial rfl (by repeat' (first | exact True.intro | refine ⟨⟨_, _, rfl, rfl, Wk.rfl⟩, ?_⟩ | refine ⟨⟨_, _, accV_ren rfl, rfl, Wk.rfl⟩, ?_⟩ | refine ⟨⟨_, _, accV_ren rfl, rfl, Wk.acc0⟩, ?_⟩ | refine ⟨⟨_, _, rfl, rfl, Wk.uncap⟩, ?_⟩ | refine ⟨⟨_, _, rfl, rfl, Wk.nil⟩, ?_⟩)) (by repeat' (first | exact True.intro | refine ⟨⟨_, _, _, rfl, rfl, rfl, WkO.rfl⟩, ?_⟩ | refine HeapOK.acc rfl rfl ?_)) (e' := [(2, .c (.p (.tz true 1 [] none)))]) (h' := ⟨[], 0⟩)
    exact M.ret (M.go rfl (M.done (finQ.ret [] rfl rfl rfl (by first | exact Wk.rfl | exact Wk.uncap | exact Wk.nil | exact Wk.b1 rfl | exact Wk.t2 Wk.rfl (Wk.b1 rfl)) (by repeat' (first | exact True.intro | refine ⟨⟨_, _, _, rfl, rfl, rfl, WkO.rfl⟩, ?_⟩ | refine HeapOK.acc rfl rfl ?_)))))
  · refine M.go rfl ?_
    by_cases h0 : el = []
    · subst h0
      obtain rfl : z = false := by simpa using hc
      refine M.op trivial (SOp.app0 rfl rfl .tz (.inl ⟨_, _, _, _, _, rfl⟩)) ?_
      refine M.go rfl ?_
      refine M.freezeN (i := 2) rfl rfl rfl ?_
      refine M.ren [] ?_ trivial rfl (by repeat' (first | exact True.intro | refine ⟨⟨_, _, rfl, rfl, Wk.rfl⟩, ?_⟩ | refine ⟨⟨_, _, accV_ren rfl, rfl, Wk.rfl⟩, ?_⟩ | refine ⟨⟨_, _, accV_ren rfl, rfl, Wk.acc0⟩, ?_⟩ | refine ⟨⟨_, _, rfl, rfl, Wk.uncap⟩, ?_⟩ | refine ⟨⟨_, _, rfl, rfl, Wk.nil⟩, ?_⟩)) (by repeat' (first | exact True.intro | refine ⟨⟨_, _, _, rfl, rfl, rfl, WkO.rfl⟩, ?_⟩ | refine HeapOK.acc rfl rfl ?_)) (e' := [(2, .c (.p (.tz false 1 [] none)))]) (h' := ⟨[], 0⟩)
      exact M.ret (M.go rfl (M.done (finQ.ret [] rfl rfl rfl (by first | exact Wk.rfl | exact Wk.uncap | exact Wk.nil | exact Wk.b1 rfl | exact Wk.t2 Wk.rfl (Wk.b1 rfl)) (by repeat' (first | exact True.intro | refine ⟨⟨_, _, _, rfl, rfl, rfl, WkO.rfl⟩, ?_⟩ | refine HeapOK.acc rfl rfl ?_)))))
    · refine M.op trivial (SOp.appF (ex := []) rfl rfl rfl (by have := List.length_pos_iff.2 h0; simp; omega) rfl .tz h0 (by simp; omega)) ?_
      refine M.go rfl ?_
      refine M.freezeN (i := 2) rfl rfl (by simp) ?_
      refine M.ren [] ?_ trivial rfl ⟨⟨_, _, rfl, rfl, Wk.some h0⟩, trivial⟩ (by repeat' (first | exact True.intro | refine ⟨⟨_, _, _, rfl, rfl, rfl, WkO.rfl⟩, ?_⟩ | refine HeapOK.acc rfl rfl ?_)) (e' := [(2, .c (.p (.tz z 1 el none)))]) (h' := ⟨[], 0⟩)
      exact M.ret (M.go rfl (M.done (finQ.ret [] rfl rfl rfl (by first | exact Wk.rfl | exact Wk.uncap | exact Wk.nil | exact Wk.b1 rfl | exact Wk.t2 Wk.rfl (Wk.b1 rfl)) (by repeat' (first | exact True.intro | refine ⟨⟨_, _, _, rfl, rfl, rfl, WkO.rfl⟩, ?_⟩ | refine HeapOK.acc rfl rfl ?_)))))
noncomputable def lIcl : {F : LF // lowerF Try.prog 95 = some F} := ⟨_, rfl⟩
theorem Icl_spec (z : Bool) (el : List PC) (c : Option Nat) (hl : el.length ≤ 1000000000000) : CallS Try.prog base 95 [.c (.p (.tz z 1 el c))] ⟨[], 0⟩ (.c (.p (.tz z 1 el none))) ⟨[], 0⟩ := by
  refine CallS.of noNG lIcl.2 rfl (M.start (M.go rfl ?_))
  refine M.condB rfl (fun hc => ?_) (fun hc => ?_)
  · refine M.go rfl ?_
    obtain ⟨rfl, rfl⟩ : z = true ∧ el = [] := by simpa using hc
    refine M.ren [] ?_ trivial rfl (by repeat' (first | exact True.intro | refine ⟨⟨_, _, rfl, rfl, Wk.rfl⟩, ?_⟩ | refine ⟨⟨_, _, accV_ren rfl, rfl, Wk.rfl⟩, ?_⟩ | refine ⟨⟨_, _, accV_ren rfl, rfl, Wk.acc0⟩, ?_⟩ | refine ⟨⟨_, _, rfl, rfl, Wk.uncap⟩, ?_⟩ | refine ⟨⟨_, _, rfl, rfl, Wk.nil⟩, ?_⟩)) (by repeat' (first | exact True.intro | refine ⟨⟨_, _, _, rfl, rfl, rfl, WkO.rfl⟩, ?_⟩ | refine HeapOK.acc rfl rfl ?_)) (e' := [(2, .c (.p (.tz true 1 [] none)))]) (h' := ⟨[], 0⟩)
    exact M.ret (M.go rfl (M.done (finQ.ret [] rfl rfl rfl (by first | exact Wk.rfl | exact Wk.uncap | exact Wk.nil | exact Wk.b1 rfl | exact Wk.t2 Wk.rfl (Wk.b1 rfl)) (by repeat' (first | exact True.intro | refine ⟨⟨_, _, _, rfl, rfl, rfl, WkO.rfl⟩, ?_⟩ | refine HeapOK.acc rfl rfl ?_)))))
  · refine M.go rfl ?_
    by_cases h0 : el = []
    · subst h0
      obtain rfl : z = false := by simpa using hc
      refine M.op trivial (SOp.app0 rfl rfl .tz (.inl ⟨_, _, _, _, _, rfl⟩)) ?_
      refine M.go rfl ?_
      refine M.freezeN (i := 2) rfl rfl rfl ?_
      refine M.ren [] ?_ trivial rfl (by repeat' (first | exact True.intro | refine ⟨⟨_, _, rfl, rfl, Wk.rfl⟩, ?_⟩ | refine ⟨⟨_, _, accV_ren rfl, rfl, Wk.rfl⟩, ?_⟩ | refine ⟨⟨_, _, accV_ren rfl, rfl, Wk.acc0⟩, ?_⟩ | refine ⟨⟨_, _, rfl, rfl, Wk.uncap⟩, ?_⟩ | refine ⟨⟨_, _, rfl, rfl, Wk.nil⟩, ?_⟩)) (by repeat' (first | exact True.intro | refine ⟨⟨_, _, _, rfl, rfl, rfl, WkO.rfl⟩, ?_⟩ | refine HeapOK.acc rfl rfl ?_)) (e' := [(2, .c (.p (.tz false 1 [] none)))]) (h' := ⟨[], 0⟩)
      exact M.ret (M.go rfl (M.done (finQ.ret [] rfl rfl rfl (by first | exact Wk.rfl | exact Wk.uncap | exact Wk.nil | exact Wk.b1 rfl | exact Wk.t2 Wk.rfl (Wk.b1 rfl)) (by repeat' (first | exact True.intro | refine ⟨⟨_, _, _, rfl, rfl, rfl, WkO.rfl⟩, ?_⟩ | refine HeapOK.acc rfl rfl ?_)))))
    · refine M.op trivial (SOp.appF (ex := []) rfl rfl rfl (by have := List.length_pos_iff.2 h0; simp; omega) rfl .tz h0 (by simp; omega)) ?_
      refine M.go rfl ?_
      refine M.freezeN (i := 2) rfl rfl (by simp) ?_
      refine M.ren [] ?_ trivial rfl ⟨⟨_, _, rfl, rfl, Wk.some h0⟩, trivial⟩ (by repeat' (first | exact True.intro | refine ⟨⟨_, _, _, rfl, rfl, rfl, WkO.rfl⟩, ?_⟩ | refine HeapOK.acc rfl rfl ?_)) (e' := [(2, .c (.p (.tz z 1 el none)))]) (h' := ⟨[], 0⟩)
      exact M.ret (M.go rfl (M.done (finQ.ret [] rfl rfl rfl (by first | exact Wk.rfl | exact Wk.uncap | exact Wk.nil | exact Wk.b1 rfl | exact Wk.t2 Wk.rfl (Wk.b1 rfl)) (by repeat' (first | exact True.intro | refine ⟨⟨_, _, _, rfl, rfl, rfl, WkO.rfl⟩, ?_⟩ | refine HeapOK.acc rfl rfl ?_)))))
noncomputable def lEcl : {F : LF // lowerF Try.prog 97 = some F} := ⟨_, rfl⟩
theorem Ecl_spec (z : Bool) (el : List PC) (c : Option Nat) (hl : el.length ≤ 1000000000000) : CallS Try.prog base 97 [.c (.p (.tz z 4 el c))] ⟨[], 0⟩ (.c (.p (.tz z 4 el none))) ⟨[], 0⟩ := by
  refine CallS.of noNG lEcl.2 rfl (M.start (M.go rfl ?_))
  refine M.condB rfl (fun hc => ?_) (fun hc => ?_)
  · refine M.go rfl ?_
    obtain ⟨rfl, rfl⟩ : z = true ∧ el = [] := by simpa using hc
    refine M.ren [] ?_ trivial rfl (by repeat' (first | exact True.intro | refine ⟨⟨_, _, rfl, rfl, Wk.rfl⟩, ?_⟩ | refine ⟨⟨_, _, accV_ren rfl, rfl, Wk.rfl⟩, ?_⟩ | refine ⟨⟨_, _, accV_ren rfl, rfl, Wk.acc0⟩, ?_⟩ | refine ⟨⟨_, _, rfl, rfl, Wk.uncap⟩, ?_⟩ | refine ⟨⟨_, _, rfl, rfl, Wk.nil⟩, ?_⟩)) (by repeat' (first | exact True.intro | refine ⟨⟨_, _, _, rfl, rfl, rfl, WkO.rfl⟩, ?_⟩ | refine HeapOK.acc rfl rfl ?_)) (e' := [(2, .c (.p (.tz true 4 [] none)))]) (h' := ⟨[], 0⟩)
    exact M.ret (M.go rfl (M.done (finQ.ret [] rfl rfl rfl (by first | exact Wk.rfl | exact Wk.uncap | exact Wk.nil | exact Wk.b1 rfl | exact Wk.t2 Wk.rfl (Wk.b1 rfl)) (by repeat' (first | exact True.intro | refine ⟨⟨_, _, _, rfl, rfl, rfl, WkO.rfl⟩, ?_⟩ | refine HeapOK.acc rfl rfl ?_)))))
  · refine M.go rfl ?_
    by_cases h0 : el = []
    · subst h0
      obtain rfl : z = false := by simpa using hc
      refine M.op trivial (SOp.app0 rfl rfl .tz (.inl ⟨_, _, _, _, _, rfl⟩)) ?_
      refine M.go rfl ?_
      refine M.freezeN (i := 2) rfl rfl rfl ?_
      refine M.ren [] ?_ trivial rfl (by repeat' (first | exact True.intro | refine ⟨⟨_, _, rfl, rfl, Wk.rfl⟩, ?_⟩ | refine ⟨⟨_, _, accV_ren rfl, rfl, Wk.rfl⟩, ?_⟩ | refine ⟨⟨_, _, accV_ren rfl, rfl, Wk.acc0⟩, ?_⟩ | refine ⟨⟨_, _, rfl, rfl, Wk.uncap⟩, ?_⟩ | refine ⟨⟨_, _, rfl, rfl, Wk.nil⟩, ?_⟩)) (by repeat' (first | exact True.intro | refine ⟨⟨_, _, _, rfl, rfl, rfl, WkO.rfl⟩, ?_⟩ | refine HeapOK.acc rfl rfl ?_)) (e' := [(2, .c (.p (.tz false 4 [] none)))]) (h' := ⟨[], 0⟩)
      exact M.ret (M.go rfl (M.done (finQ.ret [] rfl rfl rfl (by first | exact Wk.rfl | exact Wk.uncap | exact Wk.nil | exact Wk.b1 rfl | exact Wk.t2 Wk.rfl (Wk.b1 rfl)) (by repeat' (first | exact True.intro | refine ⟨⟨_, _, _, rfl, rfl, rfl, WkO.rfl⟩, ?_⟩ | refine HeapOK.acc rfl rfl ?_)))))
    · refine M.op trivial (SOp.appF (ex := []) rfl rfl rfl (by have := List.length_pos_iff.2 h0; simp; omega) rfl .tz h0 (by simp; omega)) ?_
      refine M.go rfl ?_
      refine M.freezeN (i := 2) rfl rfl (by simp) ?_
      refine M.ren [] ?_ trivial rfl ⟨⟨_, _, rfl, rfl, Wk.some h0⟩, trivial⟩ (by repeat' (first | exact True.intro | refine ⟨⟨_, _, _, rfl, rfl, rfl, WkO.rfl⟩, ?_⟩ | refine HeapOK.acc rfl rfl ?_)) (e' := [(2, .c (.p (.tz z 4 el none)))]) (h' := ⟨[], 0⟩)
      exact M.ret (M.go rfl (M.done (finQ.ret [] rfl rfl rfl (by first | exact Wk.rfl | exact Wk.uncap | exact Wk.nil | exact Wk.b1 rfl | exact Wk.t2 Wk.rfl (Wk.b1 rfl)) (by repeat' (first | exact True.intro | refine ⟨⟨_, _, _, rfl, rfl, rfl, WkO.rfl⟩, ?_⟩ | refine HeapOK.acc rfl rfl ?_)))))
noncomputable def lClip : {F : LF // lowerF Try.prog 98 = some F} := ⟨_, rfl⟩
theorem Clip_spec (z : Bool) (el : List PC) (c : Option Nat) : CallS Try.prog base 98 [.c (.p (.tz z 4 el c))] ⟨[], 0⟩ (.c (.p (.tz (z && el.isEmpty) 4 el (some el.length)))) ⟨[], 0⟩ := by
  refine CallS.of noNG lClip.2 rfl (M.start (M.go rfl ?_))
  refine M.op trivial (SOp.slM (l := 0) (r := el.length) (m := el.length) rfl rfl ⟨_, _, rfl, by omega, by simp⟩ ⟨_, _, rfl, by omega, by simp⟩ (by omega) (by omega) (by omega)) ?_
  refine M.go rfl ?_
  rw [show (el.drop 0).take (el.length - 0) = el by simp, show el.length - 0 = el.length by omega]
  refine M.ren [] ?_ trivial rfl (by repeat' (first | exact True.intro | refine ⟨⟨_, _, rfl, rfl, Wk.rfl⟩, ?_⟩ | refine ⟨⟨_, _, accV_ren rfl, rfl, Wk.rfl⟩, ?_⟩ | refine ⟨⟨_, _, accV_ren rfl, rfl, Wk.acc0⟩, ?_⟩ | refine ⟨⟨_, _, rfl, rfl, Wk.uncap⟩, ?_⟩ | refine ⟨⟨_, _, rfl, rfl, Wk.nil⟩, ?_⟩)) (by repeat' (first | exact True.intro | refine ⟨⟨_, _, _, rfl, rfl, rfl, WkO.rfl⟩, ?_⟩ | refine HeapOK.acc rfl rfl ?_)) (e' := [(2, .c (.p (.tz (z && el.isEmpty) 4 el (some el.length))))]) (h' := ⟨[], 0⟩)
  exact M.ret (M.go rfl (M.done (finQ.ret [] rfl rfl rfl (by first | exact Wk.rfl | exact Wk.uncap | exact Wk.nil | exact Wk.b1 rfl | exact Wk.t2 Wk.rfl (Wk.b1 rfl)) (by repeat' (first | exact True.intro | refine ⟨⟨_, _, _, rfl, rfl, rfl, WkO.rfl⟩, ?_⟩ | refine HeapOK.acc rfl rfl ?_)))))
/-! An entry, a snapshot of one's own. -/
noncomputable def lOwn : {F : LF // lowerF Try.prog 93 = some F} := ⟨_, rfl⟩
def Ent.own (e : Ent) : Ent := { e with c := none }
def Ent.v (e : Ent) : XV := .agg (e.cs.map XC.p)
theorem byP_len (l : List Nat) : (byP l).length = l.length := by simp [byP]
theorem own_spec (e : Ent) (he : okB e.d) : CallS Try.prog base 93 [e.v] ⟨[], 0⟩ e.own.v ⟨[], 0⟩ := by
  refine CallS.of noNG lOwn.2 rfl (M.start (M.go rfl ?_))
  refine M.use0 trivial (Bcl_spec e.z (byP e.d) e.c (by have := he.1; rw [byP_len]; omega)) rfl rfl rfl ?_
  refine M.go rfl ?_
  exact M.ret (M.go rfl (M.done (finQ.ret [] rfl rfl rfl (by first | exact Wk.rfl | exact Wk.uncap | exact Wk.nil | exact Wk.b1 rfl | exact Wk.t2 Wk.rfl (Wk.b1 rfl)) (by repeat' (first | exact True.intro | refine ⟨⟨_, _, _, rfl, rfl, rfl, WkO.rfl⟩, ?_⟩ | refine HeapOK.acc rfl rfl ?_)))))
structure Snp where
  ix : Int
  tm : Int
  cz : Bool
  cf : List Int
  cc : Option Nat
  dz : Bool
  d : List Nat
  dc : Option Nat
def Snp.cs (s : Snp) : List PC := [.int .i64 s.ix, .int .i64 s.tm, .tz s.cz 1 (inP s.cf) s.cc, .tz s.dz 1 (byP s.d) s.dc]
def Snp.pc (s : Snp) : PC := .agg s.cs
def Snp.v (s : Snp) : XV := .agg (s.cs.map XC.p)
def Snp.own (s : Snp) : Snp := { s with cc := none, dc := none }
structure Snp.ok (s : Snp) : Prop where
  ix : I64 s.ix
  tm : I64 s.tm
  cf : s.cf.length ≤ 100000000000 ∧ ∀ i ∈ s.cf, I64 i
  d : okB s.d
theorem inP_len (l : List Int) : (inP l).length = l.length := by simp [inP]
noncomputable def lOwnS : {F : LF // lowerF Try.prog 92 = some F} := ⟨_, rfl⟩
theorem ownS_spec (s : Snp) (hs : s.ok) : CallS Try.prog base 92 [s.v] ⟨[], 0⟩ s.own.v ⟨[], 0⟩ := by
  refine CallS.of noNG lOwnS.2 rfl (M.start (M.go rfl ?_))
  refine M.regF (MF.go rfl ?_)
  refine MF.use0 trivial (Icl_spec s.cz (inP s.cf) s.cc (by have := hs.cf.1; rw [inP_len]; omega)) rfl rfl rfl (MF.go rfl ?_)
  refine MF.use0 trivial (Bcl_spec s.dz (byP s.d) s.dc (by have := hs.d.1; rw [byP_len]; omega)) rfl rfl rfl (MF.go rfl ?_)
  refine MF.nil mixed (Fnl.nodup rfl) rfl ⟨⟨stepX_ok rfl, trivial⟩, trivial⟩ ?_
  refine M.go rfl ?_
  exact M.ret (M.go rfl (M.done (finQ.ret [] rfl rfl rfl (by first | exact Wk.rfl | exact Wk.uncap | exact Wk.nil | exact Wk.b1 rfl | exact Wk.t2 Wk.rfl (Wk.b1 rfl)) (by repeat' (first | exact True.intro | refine ⟨⟨_, _, _, rfl, rfl, rfl, WkO.rfl⟩, ?_⟩ | refine HeapOK.acc rfl rfl ?_)))))
/-! Which entries may stand behind one another. -/
noncomputable def lMay : {F : LF // lowerF Try.prog 91 = some F} := ⟨_, rfl⟩
def entB (i t : Int) (e : Ent) : Bool := !(!decide (e.ix = i) || (decide (e.tm < 1) || (decide (e.tm < t) || (decide (e.kd < 1) || (decide (3 < e.kd) || (decide (e.kd = 3) && (memL e.d).isEmpty))))))
def mayF : Int → Int → List Ent → Bool
  | _, _, [] => true
  | i, t, e :: l => !decide (i = 9223372036854775807) && (entB (i + 1) t e && mayF (i + 1) e.tm l)
def mayE (z : Bool) (c : Option Nat) (l pre : List Ent) (i t : Int) : Env := [(0, .c (.p (.int .i64 i))), (1, .c (.p (.int .i64 t))), (9, .c (.p (.tz z 4 (entP l) c))), (10, .c (.p (.int .i64 (entP l).length))), (11, .c (.p (.int .i64 pre.length)))]
theorem may_loop (z : Bool) (c : Option Nat) (l : List Ent) (hl : l.length ≤ 100000000000) (hok : ∀ e ∈ l, e.ok) (Q : QX) :
    ∀ (rest pre : List Ent) (i t : Int), l = pre ++ rest → I64 i → (mayF i t rest = true → Q (.exit 0) [] ⟨[], 0⟩) → (mayF i t rest = false → Q .ret [(6, .c (.p (.bool false)))] ⟨[], 0⟩) → XH Try.prog base lMay.1.n 0 (lMay.1.c.lp 0) (mayE z c l pre i t) ⟨[], 0⟩ Q := by
  intro rest
  induction rest with
  | nil =>
    intro pre i t hp hi hq hr
    refine M.round (M.go rfl ?_)
    simp at hp
    subst hp
    refine M.cond rfl (fun hc => ?_) (fun hc => ?_)
    · simp [entP] at hc
    · refine M.ren [] ?_ trivial rfl (by repeat' (first | exact True.intro | refine ⟨⟨_, _, rfl, rfl, Wk.rfl⟩, ?_⟩ | refine ⟨⟨_, _, accV_ren rfl, rfl, Wk.rfl⟩, ?_⟩ | refine ⟨⟨_, _, accV_ren rfl, rfl, Wk.acc0⟩, ?_⟩ | refine ⟨⟨_, _, rfl, rfl, Wk.uncap⟩, ?_⟩ | refine ⟨⟨_, _, rfl, rfl, Wk.nil⟩, ?_⟩)) (by repeat' (first | exact True.intro | refine ⟨⟨_, _, _, rfl, rfl, rfl, WkO.rfl⟩, ?_⟩ | refine HeapOK.acc rfl rfl ?_)) (e' := []) (h' := ⟨[], 0⟩)
      exact M.exit (M.go rfl (M.done (hq rfl)))
  | cons e rest ih =>
    intro pre i t hp hi hq hr
    have he : e.ok := hok e (by rw [hp]; simp)
    have hlen : (entP l).length = pre.length + (rest.length + 1) := by rw [hp]; simp [entP]
    have hll : pre.length + rest.length < 100000000000 := by rw [hp] at hl; simp at hl; omega
    have fin : mayF i t (e :: rest) = false → M Try.prog base lMay.1.n 0 (.out .ret) [] [(6, .c (.p (.bool false)))] ⟨[], 0⟩ Q := fun hm => M.done (hr hm)
    refine M.round (M.go rfl ?_)
    refine M.cond rfl (fun hc => ?_) (fun hc => ?_)
    · refine M.go rfl ?_
      have hu : (entP l)[((pre.length : Int)).toNat]? = some e.pc := by rw [hp]; exact at_app _ _ _ _
      refine M.op trivial (SOp.ia rfl rfl (by omega) hu) ?_
      refine M.op trivial (SOp.ldne rfl hu rfl rfl rfl) ?_
      refine M.go rfl ?_
      refine M.cond rfl (fun h0 => ?_) (fun h0 => ?_)
      · refine M.go rfl ?_
        refine M.ren [] ?_ trivial rfl (by repeat' (first | exact True.intro | refine ⟨⟨_, _, rfl, rfl, Wk.rfl⟩, ?_⟩ | refine ⟨⟨_, _, accV_ren rfl, rfl, Wk.rfl⟩, ?_⟩ | refine ⟨⟨_, _, accV_ren rfl, rfl, Wk.acc0⟩, ?_⟩ | refine ⟨⟨_, _, rfl, rfl, Wk.uncap⟩, ?_⟩ | refine ⟨⟨_, _, rfl, rfl, Wk.nil⟩, ?_⟩)) (by repeat' (first | exact True.intro | refine ⟨⟨_, _, _, rfl, rfl, rfl, WkO.rfl⟩, ?_⟩ | refine HeapOK.acc rfl rfl ?_)) (e' := [(6, .c (.p (.bool false)))]) (h' := ⟨[], 0⟩)
        exact M.ret (M.go rfl (M.done (hr (by rw [mayF, decide_eq_true (p := i = _) h0]; rfl))))
      · refine M.go rfl ?_
        have hw : IntKind.i64.wrap (i + 1) = i + 1 := wr64 (by have := hi.1; omega) (by have := hi.2; omega)
        rw [hw]
        obtain ⟨T, hT⟩ : ∃ T, T = entB (i + 1) t e := ⟨_, rfl⟩
        have hm : mayF i t (e :: rest) = (T && mayF (i + 1) e.tm rest) := by rw [mayF, hT, decide_eq_false (p := i = _) h0]; rfl
        refine M.mid ((54, .c (.p (.bs (!T)))) :: (8, .c (.ptr 0 0)) :: mayE z c l pre (i + 1) t) ⟨[(0, some (.row (e.cs.map XC.p) true))], 1⟩ ?_ ?_
        · refine M.decN rfl (fun h1 => ?_) (fun h1 => ?_)
          · refine M.go rfl (M.end [(0, 0)] rfl ⟨⟨_, _, rfl, rfl, Wk.b1 (by rw [hT]; simp [entB, h1])⟩, (by repeat' (first | exact True.intro | refine ⟨⟨_, _, rfl, rfl, Wk.rfl⟩, ?_⟩ | refine ⟨⟨_, _, accV_ren rfl, rfl, Wk.rfl⟩, ?_⟩ | refine ⟨⟨_, _, accV_ren rfl, rfl, Wk.acc0⟩, ?_⟩ | refine ⟨⟨_, _, rfl, rfl, Wk.uncap⟩, ?_⟩ | refine ⟨⟨_, _, rfl, rfl, Wk.nil⟩, ?_⟩))⟩ (by repeat' (first | exact True.intro | refine ⟨⟨_, _, _, rfl, rfl, rfl, WkO.rfl⟩, ?_⟩ | refine HeapOK.acc rfl rfl ?_)))
          · refine M.go rfl ?_
            refine M.dec rfl (fun h2 => ?_) (fun h2 => ?_)
            · refine M.go rfl (M.end [(0, 0)] rfl ⟨⟨_, _, rfl, rfl, Wk.b1 (by rw [hT]; simp [entB, h2])⟩, (by repeat' (first | exact True.intro | refine ⟨⟨_, _, rfl, rfl, Wk.rfl⟩, ?_⟩ | refine ⟨⟨_, _, accV_ren rfl, rfl, Wk.rfl⟩, ?_⟩ | refine ⟨⟨_, _, accV_ren rfl, rfl, Wk.acc0⟩, ?_⟩ | refine ⟨⟨_, _, rfl, rfl, Wk.uncap⟩, ?_⟩ | refine ⟨⟨_, _, rfl, rfl, Wk.nil⟩, ?_⟩))⟩ (by repeat' (first | exact True.intro | refine ⟨⟨_, _, _, rfl, rfl, rfl, WkO.rfl⟩, ?_⟩ | refine HeapOK.acc rfl rfl ?_)))
            · refine M.go rfl ?_
              refine M.dec rfl (fun h3 => ?_) (fun h3 => ?_)
              · refine M.go rfl (M.end [(0, 0)] rfl ⟨⟨_, _, rfl, rfl, Wk.b1 (by rw [hT]; simp [entB, h3])⟩, (by repeat' (first | exact True.intro | refine ⟨⟨_, _, rfl, rfl, Wk.rfl⟩, ?_⟩ | refine ⟨⟨_, _, accV_ren rfl, rfl, Wk.rfl⟩, ?_⟩ | refine ⟨⟨_, _, accV_ren rfl, rfl, Wk.acc0⟩, ?_⟩ | refine ⟨⟨_, _, rfl, rfl, Wk.uncap⟩, ?_⟩ | refine ⟨⟨_, _, rfl, rfl, Wk.nil⟩, ?_⟩))⟩ (by repeat' (first | exact True.intro | refine ⟨⟨_, _, _, rfl, rfl, rfl, WkO.rfl⟩, ?_⟩ | refine HeapOK.acc rfl rfl ?_)))
              · refine M.go rfl ?_
                refine M.dec rfl (fun h4 => ?_) (fun h4 => ?_)
                · refine M.go rfl (M.end [(0, 0)] rfl ⟨⟨_, _, rfl, rfl, Wk.b1 (by rw [hT]; simp [entB, h4])⟩, (by repeat' (first | exact True.intro | refine ⟨⟨_, _, rfl, rfl, Wk.rfl⟩, ?_⟩ | refine ⟨⟨_, _, accV_ren rfl, rfl, Wk.rfl⟩, ?_⟩ | refine ⟨⟨_, _, accV_ren rfl, rfl, Wk.acc0⟩, ?_⟩ | refine ⟨⟨_, _, rfl, rfl, Wk.uncap⟩, ?_⟩ | refine ⟨⟨_, _, rfl, rfl, Wk.nil⟩, ?_⟩))⟩ (by repeat' (first | exact True.intro | refine ⟨⟨_, _, _, rfl, rfl, rfl, WkO.rfl⟩, ?_⟩ | refine HeapOK.acc rfl rfl ?_)))
                · refine M.go rfl ?_
                  refine M.dec rfl (fun h5 => ?_) (fun h5 => ?_)
                  · refine M.go rfl (M.end [(0, 0)] rfl ⟨⟨_, _, rfl, rfl, Wk.b1 (by rw [hT]; simp [entB, h5])⟩, (by repeat' (first | exact True.intro | refine ⟨⟨_, _, rfl, rfl, Wk.rfl⟩, ?_⟩ | refine ⟨⟨_, _, accV_ren rfl, rfl, Wk.rfl⟩, ?_⟩ | refine ⟨⟨_, _, accV_ren rfl, rfl, Wk.acc0⟩, ?_⟩ | refine ⟨⟨_, _, rfl, rfl, Wk.uncap⟩, ?_⟩ | refine ⟨⟨_, _, rfl, rfl, Wk.nil⟩, ?_⟩))⟩ (by repeat' (first | exact True.intro | refine ⟨⟨_, _, _, rfl, rfl, rfl, WkO.rfl⟩, ?_⟩ | refine HeapOK.acc rfl rfl ?_)))
                  · refine M.go rfl ?_
                    refine M.dec rfl (fun h6 => ?_) (fun h6 => ?_)
                    · refine M.go rfl ?_
                      refine M.use0 rfl (members_spec e.z e.c e.d he.d) rfl rfl rfl ?_
                      refine M.go rfl (M.end [(0, 0)] rfl ⟨⟨_, _, rfl, rfl, Wk.b2 (by rw [hT]; simp [entB, h1, h2, h3, h4, h5, h6, nums, inP])⟩, (by repeat' (first | exact True.intro | refine ⟨⟨_, _, rfl, rfl, Wk.rfl⟩, ?_⟩ | refine ⟨⟨_, _, accV_ren rfl, rfl, Wk.rfl⟩, ?_⟩ | refine ⟨⟨_, _, accV_ren rfl, rfl, Wk.acc0⟩, ?_⟩ | refine ⟨⟨_, _, rfl, rfl, Wk.uncap⟩, ?_⟩ | refine ⟨⟨_, _, rfl, rfl, Wk.nil⟩, ?_⟩))⟩ (by repeat' (first | exact True.intro | refine ⟨⟨_, _, _, rfl, rfl, rfl, WkO.rfl⟩, ?_⟩ | refine HeapOK.acc rfl rfl ?_)))
                    · refine M.go rfl (M.end [(0, 0)] rfl ⟨⟨_, _, rfl, rfl, Wk.b1 (by rw [hT]; simp [entB, h1, h2, h3, h4, h5, h6])⟩, (by repeat' (first | exact True.intro | refine ⟨⟨_, _, rfl, rfl, Wk.rfl⟩, ?_⟩ | refine ⟨⟨_, _, accV_ren rfl, rfl, Wk.rfl⟩, ?_⟩ | refine ⟨⟨_, _, accV_ren rfl, rfl, Wk.acc0⟩, ?_⟩ | refine ⟨⟨_, _, rfl, rfl, Wk.uncap⟩, ?_⟩ | refine ⟨⟨_, _, rfl, rfl, Wk.nil⟩, ?_⟩))⟩ (by repeat' (first | exact True.intro | refine ⟨⟨_, _, _, rfl, rfl, rfl, WkO.rfl⟩, ?_⟩ | refine HeapOK.acc rfl rfl ?_)))
        · refine M.go rfl ?_
          refine M.condB rfl (fun hc => ?_) (fun hc => ?_)
          · refine M.go rfl ?_
            refine M.ren [] ?_ trivial rfl (by repeat' (first | exact True.intro | refine ⟨⟨_, _, rfl, rfl, Wk.rfl⟩, ?_⟩ | refine ⟨⟨_, _, accV_ren rfl, rfl, Wk.rfl⟩, ?_⟩ | refine ⟨⟨_, _, accV_ren rfl, rfl, Wk.acc0⟩, ?_⟩ | refine ⟨⟨_, _, rfl, rfl, Wk.uncap⟩, ?_⟩ | refine ⟨⟨_, _, rfl, rfl, Wk.nil⟩, ?_⟩)) (by repeat' (first | exact True.intro | refine ⟨⟨_, _, _, rfl, rfl, rfl, WkO.rfl⟩, ?_⟩ | refine HeapOK.acc rfl rfl ?_)) (e' := [(6, .c (.p (.bool false)))]) (h' := ⟨[], 0⟩)
            exact M.ret (M.go rfl (M.done (hr (by rw [hm]; rw [Bool.not_eq_true'] at hc; rw [hc]; rfl))))
          · refine M.go rfl ?_
            have hbb : T = true := by simpa using hc
            have h7 : e.ix = i + 1 := by rw [hT] at hbb; simp [entB] at hbb; exact hbb.1
            rw [hm, hbb, Bool.true_and] at hq hr
            have ih' := ih (pre ++ [e]) (i + 1) e.tm (by rw [hp]; simp) (by rw [← h7]; exact he.ix) hq hr
            have hw2 : IntKind.i64.wrap ((pre.length : Int) + 1) = ((pre ++ [e]).length : Int) := by rw [wr64 (by omega) (by omega)]; simp
            rw [hw2]
            exact M.again (XH.ren [] ih' rfl (by repeat' (first | exact True.intro | refine ⟨⟨_, _, rfl, rfl, Wk.rfl⟩, ?_⟩ | refine ⟨⟨_, _, accV_ren rfl, rfl, Wk.rfl⟩, ?_⟩ | refine ⟨⟨_, _, accV_ren rfl, rfl, Wk.acc0⟩, ?_⟩ | refine ⟨⟨_, _, rfl, rfl, Wk.uncap⟩, ?_⟩ | refine ⟨⟨_, _, rfl, rfl, Wk.nil⟩, ?_⟩)) (by repeat' (first | exact True.intro | refine ⟨⟨_, _, _, rfl, rfl, rfl, WkO.rfl⟩, ?_⟩ | refine HeapOK.acc rfl rfl ?_)))
    · rw [hlen] at hc; omega
theorem may_spec (z : Bool) (c : Option Nat) (l : List Ent) (i t : Int) (hl : l.length ≤ 100000000000) (hok : ∀ e ∈ l, e.ok) (hi : I64 i) : CallS Try.prog base 91 [.c (.p (.int .i64 i)), .c (.p (.int .i64 t)), .c (.p (.tz z 4 (entP l) c))] ⟨[], 0⟩ (.c (.p (.bs (mayF i t l)))) ⟨[], 0⟩ := by
  refine CallS.of noNG lMay.2 rfl (M.start (M.go rfl ?_))
  refine M.loop (XH.ren [] (may_loop z c l hl hok _ l [] i t rfl hi ?_ ?_) rfl (by repeat' (first | exact True.intro | refine ⟨⟨_, _, rfl, rfl, Wk.rfl⟩, ?_⟩ | refine ⟨⟨_, _, accV_ren rfl, rfl, Wk.rfl⟩, ?_⟩ | refine ⟨⟨_, _, accV_ren rfl, rfl, Wk.acc0⟩, ?_⟩ | refine ⟨⟨_, _, rfl, rfl, Wk.uncap⟩, ?_⟩ | refine ⟨⟨_, _, rfl, rfl, Wk.nil⟩, ?_⟩)) (by repeat' (first | exact True.intro | refine ⟨⟨_, _, _, rfl, rfl, rfl, WkO.rfl⟩, ?_⟩ | refine HeapOK.acc rfl rfl ?_)))
  · intro hm
    refine M.q (M.go rfl ?_)
    exact M.ret (M.go rfl (M.done (finQ.ret [] rfl rfl rfl (Wk.b1 hm) (by repeat' (first | exact True.intro | refine ⟨⟨_, _, _, rfl, rfl, rfl, WkO.rfl⟩, ?_⟩ | refine HeapOK.acc rfl rfl ?_)))))
  · intro hm
    refine M.q (M.go rfl ?_)
    exact M.done (finQ.ret [] rfl rfl rfl (Wk.b1 hm) (by repeat' (first | exact True.intro | refine ⟨⟨_, _, _, rfl, rfl, rfl, WkO.rfl⟩, ?_⟩ | refine HeapOK.acc rfl rfl ?_)))
end Go.Proofs.Yteegdhfekemhmaa

/- The log: what its methods do. -/
namespace Go.Proofs.Yteegdhfekemhmaa
open Go.RowKit Sim Go Sym
set_option maxRecDepth 100000
set_option linter.unusedVariables false
set_option linter.unusedSimpArgs false
variable {base : Nat}
instance : Inhabited Ent := ⟨⟨0, 0, 0, true, [], none⟩⟩
structure PLog where
  S : Snp
  E : List Ent
  z : Bool
  c : Option Nat
def PLog.row (L : PLog) : List XC := [.p (.int .i64 L.S.ix), .p (.int .i64 L.S.tm), .p (.tz L.S.cz 1 (inP L.S.cf) L.S.cc), .p (.tz L.S.dz 1 (byP L.S.d) L.S.dc), .p (.tz L.z 4 (entP L.E) L.c)]
def PLog.h (L : PLog) : HS := ⟨[(0, some (.row L.row true))], 1⟩
def PLog.last (L : PLog) : Int := L.S.ix + L.E.length
structure PLog.ok (L : PLog) : Prop where
  S : L.S.ok
  ix : 0 ≤ L.S.ix
  top : L.last ≤ 9223372036854775807
  len : L.E.length ≤ 10000000000
  E : ∀ e ∈ L.E, e.ok
theorem entP_len (l : List Ent) : (entP l).length = l.length := by simp [entP]
def PLog.at' (L : PLog) (i : Int) : Ent := L.E.getD (i - L.S.ix - 1).toNat default
/-! Base, Last. -/
noncomputable def lBase : {F : LF // lowerF Try.prog 37 = some F} := ⟨_, rfl⟩
theorem Base_spec (L : PLog) : CallS Try.prog base 37 [.c (.ptr 0 0)] L.h (.c (.p (.int .i64 L.S.ix))) L.h := by
  refine CallS.of noNG lBase.2 rfl (M.start (M.go rfl ?_))
  exact M.ret (M.go rfl (M.done (finQ.ret [(0, 0)] rfl rfl rfl (by first | exact Wk.rfl | exact Wk.uncap | exact Wk.nil | exact Wk.b1 rfl | exact Wk.t2 Wk.rfl (Wk.b1 rfl)) (by repeat' (first | exact True.intro | refine ⟨⟨_, _, _, rfl, rfl, rfl, WkO.rfl⟩, ?_⟩ | refine HeapOK.acc rfl rfl ?_)))))
noncomputable def lLast : {F : LF // lowerF Try.prog 39 = some F} := ⟨_, rfl⟩
theorem Last_spec (L : PLog) (hL : L.ok) : CallS Try.prog base 39 [.c (.ptr 0 0)] L.h (.c (.p (.int .i64 L.last))) L.h := by
  refine CallS.of noNG lLast.2 rfl (M.start (M.go rfl ?_))
  refine M.regD (MD.go rfl (MD.nil mixed (Fnl.nodup rfl) (M.go rfl ?_)))
  rw [show IntKind.i64.wrap (L.S.ix + ((entP L.E).length : Int)) = L.last by rw [entP_len]; exact wr64 (by have := hL.ix; omega) hL.top]
  exact M.ret (M.go rfl (M.done (finQ.ret [(0, 0)] rfl rfl rfl (by first | exact Wk.rfl | exact Wk.uncap | exact Wk.nil | exact Wk.b1 rfl | exact Wk.t2 Wk.rfl (Wk.b1 rfl)) (by repeat' (first | exact True.intro | refine ⟨⟨_, _, _, rfl, rfl, rfl, WkO.rfl⟩, ?_⟩ | refine HeapOK.acc rfl rfl ?_)))))
/-! Term. -/
noncomputable def lTerm : {F : LF // lowerF Try.prog 40 = some F} := ⟨_, rfl⟩
def PLog.term (L : PLog) (i : Int) : Int × Bool := if i = L.S.ix then (L.S.tm, true) else if i ≤ L.S.ix ∨ L.last < i then (0, false) else ((L.at' i).tm, true)
theorem PLog.at_get {L : PLog} {i : Int} (h1 : L.S.ix < i) (h2 : i ≤ L.last) : ∃ j : Nat, (j : Int) = i - L.S.ix - 1 ∧ j < L.E.length ∧ L.E[j]? = some (L.at' i) ∧ (entP L.E)[(i - L.S.ix - 1).toNat]? = some (L.at' i).pc := by
  have hj : (i - L.S.ix - 1).toNat < L.E.length := by unfold PLog.last at h2; omega
  have : L.E[(i - L.S.ix - 1).toNat]? = some (L.at' i) := by
    unfold PLog.at'
    rw [List.getD_eq_getElem?_getD, List.getElem?_eq_getElem hj]; rfl
  exact ⟨(i - L.S.ix - 1).toNat, by omega, hj, this, by rw [entP, List.getElem?_map, this]; rfl⟩
theorem Term_spec (L : PLog) (hL : L.ok) (i : Int) (hi : I64 i) : CallS Try.prog base 40 [.c (.ptr 0 0), .c (.p (.int .i64 i))] L.h (.tup [.c (.p (.int .i64 (L.term i).1)), .c (.p (.bs (L.term i).2))]) L.h := by
  refine CallS.of noNG lTerm.2 rfl (M.start (M.go rfl ?_))
  refine M.cond rfl (fun h1 => ?_) (fun h1 => ?_)
  · refine M.go rfl ?_
    rw [show L.term i = (L.S.tm, true) from if_pos h1]
    exact M.ret (M.go rfl (M.done (finQ.ret [(0, 0)] rfl rfl rfl (by first | exact Wk.rfl | exact Wk.uncap | exact Wk.nil | exact Wk.b1 rfl | exact Wk.t2 Wk.rfl (Wk.b1 rfl)) (by repeat' (first | exact True.intro | refine ⟨⟨_, _, _, rfl, rfl, rfl, WkO.rfl⟩, ?_⟩ | refine HeapOK.acc rfl rfl ?_)))))
  · refine M.go rfl ?_
    have e1 : L.term i = if i ≤ L.S.ix ∨ L.last < i then (0, false) else ((L.at' i).tm, true) := if_neg h1
    refine M.dec rfl (fun h2 => ?_) (fun h2 => ?_)
    · refine M.go rfl ?_
      rw [e1, if_pos (.inl h2)]
      exact M.ret (M.go rfl (M.done (finQ.ret [(0, 0)] rfl rfl rfl (by first | exact Wk.rfl | exact Wk.uncap | exact Wk.nil | exact Wk.b1 rfl | exact Wk.t2 Wk.rfl (Wk.b1 rfl)) (by repeat' (first | exact True.intro | refine ⟨⟨_, _, _, rfl, rfl, rfl, WkO.rfl⟩, ?_⟩ | refine HeapOK.acc rfl rfl ?_)))))
    · refine M.go rfl ?_
      refine M.use (by first | exact True.intro | exact rfl) (Last_spec L hL) [(0, 0)] rfl rfl rfl (by repeat' (first | exact True.intro | refine ⟨⟨_, _, _, rfl, rfl, rfl, WkO.rfl⟩, ?_⟩ | refine HeapOK.acc rfl rfl ?_)) rfl rfl ?_
      refine M.go rfl ?_
      refine M.cond rfl (fun h3 => ?_) (fun h3 => ?_)
      · refine M.go rfl ?_
        rw [e1, if_pos (.inr h3)]
        exact M.ret (M.go rfl (M.done (finQ.ret [(0, 0)] rfl rfl rfl (by first | exact Wk.rfl | exact Wk.uncap | exact Wk.nil | exact Wk.b1 rfl | exact Wk.t2 Wk.rfl (Wk.b1 rfl)) (by repeat' (first | exact True.intro | refine ⟨⟨_, _, _, rfl, rfl, rfl, WkO.rfl⟩, ?_⟩ | refine HeapOK.acc rfl rfl ?_)))))
      · refine M.go rfl ?_
        rw [e1, if_neg (by omega)]
        obtain ⟨j, h4, h5, h6, h7⟩ := PLog.at_get (L := L) (i := i) (by omega) (by omega)
        have hw : IntKind.i64.wrap (IntKind.i64.wrap (i - L.S.ix) - 1) = i - L.S.ix - 1 := by
          rw [wr64 (n := i - L.S.ix) (by omega) (by have := hL.ix; have := hi.2; omega), wr64 (by omega) (by have := hL.ix; have := hi.2; omega)]
        refine M.regD (MD.go rfl ?_)
        rw [hw]
        refine MD.op trivial (SOp.ia rfl rfl (by omega) h7) (MD.go rfl ?_)
        refine MD.op trivial (SOp.ld1e rfl h7 rfl rfl rfl) (MD.go rfl (MD.nil mixed (Fnl.nodup rfl) (M.go rfl ?_)))
        exact M.ret (M.go rfl (M.done (finQ.ret [(0, 0)] rfl rfl rfl (by first | exact Wk.rfl | exact Wk.uncap | exact Wk.nil | exact Wk.b1 rfl | exact Wk.t2 Wk.rfl (Wk.b1 rfl)) (by repeat' (first | exact True.intro | refine ⟨⟨_, _, _, rfl, rfl, rfl, WkO.rfl⟩, ?_⟩ | refine HeapOK.acc rfl rfl ?_)))))
/-! Get. -/
noncomputable def lGet : {F : LF // lowerF Try.prog 41 = some F} := ⟨_, rfl⟩
def PLog.get (L : PLog) (i : Int) : Ent × Bool := if i ≤ L.S.ix ∨ L.last < i then (default, false) else ((L.at' i).own, true)
theorem PLog.ok.wrap {L : PLog} (hL : L.ok) {i : Int} (hi : I64 i) (h1 : L.S.ix < i) : IntKind.i64.wrap (IntKind.i64.wrap (i - L.S.ix) - 1) = i - L.S.ix - 1 := by
  have := hL.ix; have := hi.2
  rw [wr64 (n := i - L.S.ix) (by omega) (by omega), wr64 (by omega) (by omega)]
theorem PLog.ok.at_ {L : PLog} (hL : L.ok) {i : Int} {j : Nat} (h : L.E[j]? = some (L.at' i)) : (L.at' i).ok := hL.E _ (List.mem_of_getElem? h)
theorem Get_spec (L : PLog) (hL : L.ok) (i : Int) (hi : I64 i) : CallS Try.prog base 41 [.c (.ptr 0 0), .c (.p (.int .i64 i))] L.h (.tup [(L.get i).1.v, .c (.p (.bs (L.get i).2))]) L.h := by
  refine CallS.of noNG lGet.2 rfl (M.start (M.go rfl ?_))
  have e0 : ∀ v : XV, Wk (.tup [.agg [.p (.int .i64 0), .p (.int .i64 0), .p (.int .i64 0), .p (.tz true 0 [] none)], .c (.p (.bool false))]) (.tup [(default : Ent).v, .c (.p (.bs false))]) := fun _ => Wk.t2 (Wk.agg ⟨Wk.rfl, Wk.rfl, Wk.rfl, Wk.nil, trivial⟩) (Wk.b1 rfl)
  refine M.dec rfl (fun h2 => ?_) (fun h2 => ?_)
  · refine M.go rfl ?_
    rw [show L.get i = (default, false) from if_pos (.inl h2)]
    exact M.ret (M.go rfl (M.done (finQ.ret [(0, 0)] rfl rfl rfl (e0 (.tup [])) (by repeat' (first | exact True.intro | refine ⟨⟨_, _, _, rfl, rfl, rfl, WkO.rfl⟩, ?_⟩ | refine HeapOK.acc rfl rfl ?_)))))
  · refine M.go rfl ?_
    refine M.use (by first | exact True.intro | exact rfl) (Last_spec L hL) [(0, 0)] rfl rfl rfl (by repeat' (first | exact True.intro | refine ⟨⟨_, _, _, rfl, rfl, rfl, WkO.rfl⟩, ?_⟩ | refine HeapOK.acc rfl rfl ?_)) rfl rfl ?_
    refine M.go rfl ?_
    refine M.cond rfl (fun h3 => ?_) (fun h3 => ?_)
    · refine M.go rfl ?_
      rw [show L.get i = (default, false) from if_pos (.inr h3)]
      exact M.ret (M.go rfl (M.done (finQ.ret [(0, 0)] rfl rfl rfl (e0 (.tup [])) (by repeat' (first | exact True.intro | refine ⟨⟨_, _, _, rfl, rfl, rfl, WkO.rfl⟩, ?_⟩ | refine HeapOK.acc rfl rfl ?_)))))
    · refine M.go rfl ?_
      rw [show L.get i = ((L.at' i).own, true) from if_neg (by omega)]
      obtain ⟨j, h4, h5, h6, h7⟩ := PLog.at_get (L := L) (i := i) (by omega) (by omega)
      refine M.regD (MD.go rfl ?_)
      rw [hL.wrap hi (by omega)]
      refine MD.op trivial (SOp.ia rfl rfl (by omega) h7) (MD.go rfl ?_)
      refine MD.op trivial (SOp.ldne rfl h7 rfl rfl rfl) (MD.go rfl ?_)
      refine MD.use0 trivial (own_spec (L.at' i) (hL.at_ h6).d) rfl rfl rfl (MD.go rfl (MD.nil mixed (Fnl.nodup rfl) (M.go rfl ?_)))
      exact M.ret (M.go rfl (M.done (finQ.ret [(0, 0)] rfl rfl rfl (by first | exact Wk.rfl | exact Wk.uncap | exact Wk.nil | exact Wk.b1 rfl | exact Wk.t2 Wk.rfl (Wk.b1 rfl)) (by repeat' (first | exact True.intro | refine ⟨⟨_, _, _, rfl, rfl, rfl, WkO.rfl⟩, ?_⟩ | refine HeapOK.acc rfl rfl ?_)))))
/-! Slice. -/
noncomputable def lSlice : {F : LF // lowerF Try.prog 42 = some F} := ⟨_, rfl⟩
def PLog.slice (L : PLog) (f n : Int) : List Ent := if f ≤ L.S.ix ∨ L.last < f ∨ n < 1 then [] else ((L.E.drop (f - L.S.ix - 1).toNat).take n.toNat).map Ent.own
theorem slice_loop (L : PLog) (z : Bool) (c : Option Nat) (l : List Ent) (n : Int) (hn : 1 ≤ n) (hl : l.length ≤ 10000000000) (hok : ∀ e ∈ l, e.ok) (Q : QX) (hq : Q (.exit 0) [(7, accV 1 4 (entP ((l.take n.toNat).map Ent.own)))] ⟨[(1, accO 4 (entP ((l.take n.toNat).map Ent.own))), (0, some (.row L.row true))], 2⟩) :
    ∀ (rest pre : List Ent), l = pre ++ rest → (pre.length : Int) ≤ n → XH Try.prog base lSlice.1.n 1 (lSlice.1.c.lp 0) [(43, .c (.p (.tz z 4 (entP l) c))), (44, .c (.p (.int .i64 (entP l).length))), (45, .c (.p (.int .i64 pre.length))), (7, accV 1 4 (entP (pre.map Ent.own))), (2, .c (.p (.int .i64 n)))] ⟨[(1, accO 4 (entP (pre.map Ent.own))), (0, some (.row L.row true))], 2⟩ Q := by
  intro rest
  induction rest with
  | nil =>
    intro pre hp hn2
    refine M.round (M.go rfl ?_)
    simp at hp
    subst hp
    refine M.cond rfl (fun hc => ?_) (fun hc => ?_)
    · simp [entP] at hc
    · rw [List.take_of_length_le (by omega)] at hq
      refine M.ren [(0, 0), (1, 1)] ?_ trivial rfl (by repeat' (first | exact True.intro | refine ⟨⟨_, _, rfl, rfl, Wk.rfl⟩, ?_⟩ | refine ⟨⟨_, _, accV_ren rfl, rfl, Wk.rfl⟩, ?_⟩ | refine ⟨⟨_, _, accV_ren rfl, rfl, Wk.acc0⟩, ?_⟩ | refine ⟨⟨_, _, rfl, rfl, Wk.uncap⟩, ?_⟩ | refine ⟨⟨_, _, rfl, rfl, Wk.nil⟩, ?_⟩)) (by repeat' (first | exact True.intro | refine ⟨⟨_, _, _, rfl, rfl, rfl, WkO.rfl⟩, ?_⟩ | refine HeapOK.acc rfl rfl ?_)) (e' := [(7, accV 1 4 (entP (l.map Ent.own)))]) (h' := ⟨[(1, accO 4 (entP (l.map Ent.own))), (0, some (.row L.row true))], 2⟩)
      exact M.exit (M.go rfl (M.done hq))
  | cons e rest ih =>
    intro pre hp hn2
    have he : e.ok := hok e (by rw [hp]; simp)
    have hlen : (entP l).length = pre.length + (rest.length + 1) := by rw [hp]; simp [entP]
    have hll : pre.length + rest.length < 10000000000 := by rw [hp] at hl; simp at hl; omega
    refine M.round (M.go rfl ?_)
    refine M.cond rfl (fun hc => ?_) (fun hc => ?_)
    · refine M.go rfl ?_
      have hu : (entP l)[((pre.length : Int)).toNat]? = some e.pc := by rw [hp]; exact at_app _ _ _ _
      refine M.op trivial (SOp.ia rfl rfl (by omega) hu) ?_
      refine M.op trivial (SOp.ldne rfl hu rfl rfl rfl) ?_
      refine M.go rfl ?_
      have hla : (entP (pre.map Ent.own)).length = pre.length := by simp [entP]
      rw [hla]
      refine M.cond rfl (fun h0 => ?_) (fun h0 => ?_)
      · have : l.take n.toNat = pre := by rw [hp, ← h0]; simp
        rw [this] at hq
        refine M.ren [(0, 0), (1, 1)] ?_ trivial rfl (by repeat' (first | exact True.intro | refine ⟨⟨_, _, rfl, rfl, Wk.rfl⟩, ?_⟩ | refine ⟨⟨_, _, accV_ren rfl, rfl, Wk.rfl⟩, ?_⟩ | refine ⟨⟨_, _, accV_ren rfl, rfl, Wk.acc0⟩, ?_⟩ | refine ⟨⟨_, _, rfl, rfl, Wk.uncap⟩, ?_⟩ | refine ⟨⟨_, _, rfl, rfl, Wk.nil⟩, ?_⟩)) (by repeat' (first | exact True.intro | refine ⟨⟨_, _, _, rfl, rfl, rfl, WkO.rfl⟩, ?_⟩ | refine HeapOK.acc rfl rfl ?_)) (e' := [(7, accV 1 4 (entP (pre.map Ent.own)))]) (h' := ⟨[(1, accO 4 (entP (pre.map Ent.own))), (0, some (.row L.row true))], 2⟩)
        exact M.exit (M.go rfl (M.done hq))
      · refine M.go rfl ?_
        refine M.use0 trivial (own_spec e he.d) rfl rfl rfl ?_
        refine M.go rfl ?_
        refine M.acc trivial rfl rfl rfl (.own rfl rfl) (by simp) (by rw [hla]; simp; omega) ?_
        refine M.go rfl ?_
        have hw2 : IntKind.i64.wrap ((pre.length : Int) + 1) = ((pre ++ [e]).length : Int) := by rw [wr64 (by omega) (by omega)]; simp
        rw [hw2]
        have ih' := ih (pre ++ [e]) (by rw [hp]; simp) (by simp; omega)
        rw [show entP ((pre ++ [e]).map Ent.own) = entP (pre.map Ent.own) ++ [e.own.pc] by simp [entP]] at ih'
        exact M.again (XH.ren [(0, 0), (1, 4)] ih' rfl (by repeat' (first | exact True.intro | refine ⟨⟨_, _, rfl, rfl, Wk.rfl⟩, ?_⟩ | refine ⟨⟨_, _, accV_ren rfl, rfl, Wk.rfl⟩, ?_⟩ | refine ⟨⟨_, _, accV_ren rfl, rfl, Wk.acc0⟩, ?_⟩ | refine ⟨⟨_, _, rfl, rfl, Wk.uncap⟩, ?_⟩ | refine ⟨⟨_, _, rfl, rfl, Wk.nil⟩, ?_⟩)) (by repeat' (first | exact True.intro | refine ⟨⟨_, _, _, rfl, rfl, rfl, WkO.rfl⟩, ?_⟩ | refine HeapOK.acc rfl rfl ?_)))
    · rw [hlen] at hc; omega
theorem Slice_spec (L : PLog) (hL : L.ok) (f n : Int) (hf : I64 f) : CallS Try.prog base 42 [.c (.ptr 0 0), .c (.p (.int .i64 f)), .c (.p (.int .i64 n))] L.h (.c (.p (.tz true 4 (entP (L.slice f n)) none))) L.h := by
  refine CallS.of noNG lSlice.2 rfl (M.start (M.go rfl ?_))
  refine M.dec rfl (fun h2 => ?_) (fun h2 => ?_)
  · refine M.go rfl ?_
    rw [show L.slice f n = [] from if_pos (.inl h2)]
    exact M.ret (M.go rfl (M.done (finQ.ret [(0, 0)] rfl rfl rfl Wk.nil (by repeat' (first | exact True.intro | refine ⟨⟨_, _, _, rfl, rfl, rfl, WkO.rfl⟩, ?_⟩ | refine HeapOK.acc rfl rfl ?_)))))
  · refine M.go rfl ?_
    refine M.use (by first | exact True.intro | exact rfl) (Last_spec L hL) [(0, 0)] rfl rfl rfl (by repeat' (first | exact True.intro | refine ⟨⟨_, _, _, rfl, rfl, rfl, WkO.rfl⟩, ?_⟩ | refine HeapOK.acc rfl rfl ?_)) rfl rfl ?_
    refine M.go rfl ?_
    refine M.dec rfl (fun h3 => ?_) (fun h3 => ?_)
    · refine M.go rfl ?_
      rw [show L.slice f n = [] from if_pos (.inr (.inl h3))]
      exact M.ret (M.go rfl (M.done (finQ.ret [(0, 0)] rfl rfl rfl Wk.nil (by repeat' (first | exact True.intro | refine ⟨⟨_, _, _, rfl, rfl, rfl, WkO.rfl⟩, ?_⟩ | refine HeapOK.acc rfl rfl ?_)))))
    · refine M.go rfl ?_
      refine M.cond rfl (fun h8 => ?_) (fun h8 => ?_)
      · refine M.go rfl ?_
        rw [show L.slice f n = [] from if_pos (.inr (.inr h8))]
        exact M.ret (M.go rfl (M.done (finQ.ret [(0, 0)] rfl rfl rfl Wk.nil (by repeat' (first | exact True.intro | refine ⟨⟨_, _, _, rfl, rfl, rfl, WkO.rfl⟩, ?_⟩ | refine HeapOK.acc rfl rfl ?_)))))
      · refine M.go rfl ?_
        rw [show L.slice f n = ((L.E.drop (f - L.S.ix - 1).toNat).take n.toNat).map Ent.own from if_neg (by omega)]
        refine M.regD (MD.go rfl ?_)
        rw [hL.wrap hf (by omega)]
        have hle : (f - L.S.ix - 1).toNat ≤ (entP L.E).length := by rw [entP_len]; have := hL.ix; unfold PLog.last at h3; omega
        refine MD.op trivial (SOp.sl rfl ⟨_, _, rfl, by omega, rfl⟩ rfl hle (Nat.le_refl _)) (MD.go rfl (MD.nil mixed (Fnl.nodup rfl) (M.go rfl ?_)))
        have hd : ((entP L.E).drop (f - L.S.ix - 1).toNat).take ((entP L.E).length - (f - L.S.ix - 1).toNat) = entP (L.E.drop (f - L.S.ix - 1).toNat) := by rw [List.take_of_length_le (by simp), entP, entP, List.map_drop]
        rw [hd]
        have hl := slice_loop (base := base) L (L.z && (entP L.E).isEmpty) (L.c.map (· - (f - L.S.ix - 1).toNat)) (L.E.drop (f - L.S.ix - 1).toNat) n (by omega) (by have := hL.len; simp; omega) (fun e he => hL.E e (List.mem_of_mem_drop he))
        refine M.loop (XH.ren [(0, 0), (1, 1)] (hl _ ?_ _ [] rfl (by simp; omega)) rfl (by repeat' (first | exact True.intro | refine ⟨⟨_, _, rfl, rfl, Wk.rfl⟩, ?_⟩ | refine ⟨⟨_, _, accV_ren rfl, rfl, Wk.rfl⟩, ?_⟩ | refine ⟨⟨_, _, accV_ren rfl, rfl, Wk.acc0⟩, ?_⟩ | refine ⟨⟨_, _, rfl, rfl, Wk.uncap⟩, ?_⟩ | refine ⟨⟨_, _, rfl, rfl, Wk.nil⟩, ?_⟩)) (by repeat' (first | exact True.intro | refine ⟨⟨_, _, _, rfl, rfl, rfl, WkO.rfl⟩, ?_⟩ | refine HeapOK.acc rfl rfl ?_)))
        refine M.q (M.go rfl ?_)
        refine M.accF (i := 6) rfl rfl ?_
        exact M.ret (M.go rfl (M.done (finQ.ret [(0, 0)] rfl rfl rfl (by first | exact Wk.rfl | exact Wk.uncap | exact Wk.nil | exact Wk.b1 rfl | exact Wk.t2 Wk.rfl (Wk.b1 rfl)) (by repeat' (first | exact True.intro | refine ⟨⟨_, _, _, rfl, rfl, rfl, WkO.rfl⟩, ?_⟩ | refine HeapOK.acc rfl rfl ?_)))))
/-! The members. -/
noncomputable def lConfAt : {F : LF // lowerF Try.prog 33 = some F} := ⟨_, rfl⟩
def natI (l : List Nat) : List Int := l.map fun (b : Nat) => (b : Int)
/-- The last members of the first entries. -/
def PLog.confN (L : PLog) : Nat → Bool × List Int
  | 0 => (L.S.cz, L.S.cf)
  | j + 1 => if (L.E.getD j default).kd = 3 then (true, natI (memL (L.E.getD j default).d)) else L.confN j
def PLog.confAt (L : PLog) (i : Int) : Bool × List Int := L.confN (min i L.last - L.S.ix).toNat
def confV (c : Bool × List Int) : XV := .c (.p (.tz c.1 1 (inP c.2) none))
theorem conf_loop (L : PLog) (hL : L.ok) (Q : QX) :
    ∀ (j : Nat) (v : Int), (v = L.S.ix + j ∨ v < L.S.ix ∧ j = 0) → I64 v → j ≤ L.E.length → (∀ c, L.confN j = c → c = (L.S.cz, L.S.cf) → Q (.exit 0) [(0, .c (.ptr 0 0))] L.h) → (∀ c, L.confN j = c → Q .ret [(4, confV c)] L.h) → XH Try.prog base lConfAt.1.n 1 (lConfAt.1.c.lp 0) [(0, .c (.ptr 0 0)), (5, .c (.p (.int .i64 v)))] L.h Q := by
  intro j
  induction j with
  | zero =>
    intro v hv hi hj hq hr
    refine M.round (M.go rfl ?_)
    refine M.cond rfl (fun hc => ?_) (fun hc => ?_)
    · omega
    · refine M.ren [(0, 0)] ?_ trivial rfl (by repeat' (first | exact True.intro | refine ⟨⟨_, _, rfl, rfl, Wk.rfl⟩, ?_⟩ | refine ⟨⟨_, _, accV_ren rfl, rfl, Wk.rfl⟩, ?_⟩ | refine ⟨⟨_, _, accV_ren rfl, rfl, Wk.acc0⟩, ?_⟩ | refine ⟨⟨_, _, rfl, rfl, Wk.uncap⟩, ?_⟩ | refine ⟨⟨_, _, rfl, rfl, Wk.nil⟩, ?_⟩)) (by repeat' (first | exact True.intro | refine ⟨⟨_, _, _, rfl, rfl, rfl, WkO.rfl⟩, ?_⟩ | refine HeapOK.acc rfl rfl ?_)) (e' := [(0, .c (.ptr 0 0))]) (h' := L.h)
      exact M.exit (M.go rfl (M.done (hq _ rfl rfl)))
  | succ j ih =>
    intro v hv hi hj hq hr
    have hv' : v = L.S.ix + (j + 1 : Nat) := by omega
    have h1 : L.S.ix < v := by omega
    have h2 : v ≤ L.last := by unfold PLog.last; omega
    obtain ⟨j', h4, h5, h6, h7⟩ := PLog.at_get h1 h2
    have hjj : j' = j := by omega
    subst hjj
    have he := hL.at_ h6
    have hg : L.E.getD j' default = L.at' v := by rw [List.getD_eq_getElem?_getD, h6]; rfl
    refine M.round (M.go rfl ?_)
    refine M.cond rfl (fun hc => ?_) (fun hc => ?_)
    · refine M.go rfl ?_
      refine M.regF (MF.go rfl ?_)
      rw [hL.wrap hi h1]
      refine MF.op trivial (SOp.ia rfl rfl (by omega) h7) (MF.go rfl ?_)
      refine MF.op trivial (SOp.ldne rfl h7 rfl rfl rfl) (MF.go rfl ?_)
      refine MF.nil mixed (Fnl.nodup rfl) rfl ⟨⟨stepX_ok rfl, trivial⟩, ⟨stepX_ok rfl, trivial⟩, ⟨.ldne rfl h7 rfl rfl rfl, trivial⟩, trivial⟩ ?_
      refine M.go rfl ?_
      refine M.cond rfl (fun h8 => ?_) (fun h8 => ?_)
      · refine M.go rfl ?_
        refine M.use0 trivial (members_spec (L.at' v).z (L.at' v).c (L.at' v).d he.d) rfl rfl rfl ?_
        refine M.go rfl ?_
        refine M.ren [(0, 0)] ?_ trivial rfl (by repeat' (first | exact True.intro | refine ⟨⟨_, _, rfl, rfl, Wk.rfl⟩, ?_⟩ | refine ⟨⟨_, _, accV_ren rfl, rfl, Wk.rfl⟩, ?_⟩ | refine ⟨⟨_, _, accV_ren rfl, rfl, Wk.acc0⟩, ?_⟩ | refine ⟨⟨_, _, rfl, rfl, Wk.uncap⟩, ?_⟩ | refine ⟨⟨_, _, rfl, rfl, Wk.nil⟩, ?_⟩)) (by repeat' (first | exact True.intro | refine ⟨⟨_, _, _, rfl, rfl, rfl, WkO.rfl⟩, ?_⟩ | refine HeapOK.acc rfl rfl ?_)) (e' := [(4, confV (true, natI (memL (L.at' v).d)))]) (h' := L.h)
        refine M.ret (M.go rfl (M.done (hr _ ?_)))
        rw [PLog.confN, hg, if_pos h8]
      · refine M.go rfl ?_
        have hw : IntKind.i64.wrap (v - 1) = v - 1 := wr64 (by have := hL.ix; omega) (by have := hi.2; omega)
        rw [hw]
        have hc2 : L.confN (j' + 1) = L.confN j' := by rw [PLog.confN, hg, if_neg h8]
        rw [hc2] at hq hr
        exact M.again (XH.ren [(0, 0)] (ih (v - 1) (by omega) ⟨by have := hL.ix; omega, by have := hi.2; omega⟩ (by omega) hq hr) rfl (by repeat' (first | exact True.intro | refine ⟨⟨_, _, rfl, rfl, Wk.rfl⟩, ?_⟩ | refine ⟨⟨_, _, accV_ren rfl, rfl, Wk.rfl⟩, ?_⟩ | refine ⟨⟨_, _, accV_ren rfl, rfl, Wk.acc0⟩, ?_⟩ | refine ⟨⟨_, _, rfl, rfl, Wk.uncap⟩, ?_⟩ | refine ⟨⟨_, _, rfl, rfl, Wk.nil⟩, ?_⟩)) (by repeat' (first | exact True.intro | refine ⟨⟨_, _, _, rfl, rfl, rfl, WkO.rfl⟩, ?_⟩ | refine HeapOK.acc rfl rfl ?_)))
    · omega
theorem ConfAt_spec (L : PLog) (hL : L.ok) (i : Int) (hi : I64 i) : CallS Try.prog base 33 [.c (.ptr 0 0), .c (.p (.int .i64 i))] L.h (confV (L.confAt i)) L.h := by
  refine CallS.of noNG lConfAt.2 rfl (M.start (M.go rfl ?_))
  refine M.use (by first | exact True.intro | exact rfl) (Last_spec L hL) [(0, 0)] rfl rfl rfl (by repeat' (first | exact True.intro | refine ⟨⟨_, _, _, rfl, rfl, rfl, WkO.rfl⟩, ?_⟩ | refine HeapOK.acc rfl rfl ?_)) rfl rfl ?_
  refine M.go rfl ?_
  rw [minI_eq]
  have h0 := hL.ix
  have h1 := hL.top
  refine M.loop (XH.ren [(0, 0)] (conf_loop L hL _ (min i L.last - L.S.ix).toNat (min i L.last) (by omega) ⟨by have := hi.1; unfold PLog.last at *; omega, by omega⟩ (by unfold PLog.last; omega) ?_ ?_) rfl (by repeat' (first | exact True.intro | refine ⟨⟨_, _, rfl, rfl, Wk.rfl⟩, ?_⟩ | refine ⟨⟨_, _, accV_ren rfl, rfl, Wk.rfl⟩, ?_⟩ | refine ⟨⟨_, _, accV_ren rfl, rfl, Wk.acc0⟩, ?_⟩ | refine ⟨⟨_, _, rfl, rfl, Wk.uncap⟩, ?_⟩ | refine ⟨⟨_, _, rfl, rfl, Wk.nil⟩, ?_⟩)) (by repeat' (first | exact True.intro | refine ⟨⟨_, _, _, rfl, rfl, rfl, WkO.rfl⟩, ?_⟩ | refine HeapOK.acc rfl rfl ?_)))
  · intro c hc hcc
    refine M.q (M.go rfl ?_)
    refine M.use0 trivial (Icl_spec L.S.cz (inP L.S.cf) L.S.cc (by have := hL.S.cf.1; rw [inP_len]; omega)) rfl rfl rfl ?_
    refine M.go rfl ?_
    rw [show L.confAt i = (L.S.cz, L.S.cf) from hc.trans hcc]
    exact M.ret (M.go rfl (M.done (finQ.ret [(0, 0)] rfl rfl rfl (by first | exact Wk.rfl | exact Wk.uncap | exact Wk.nil | exact Wk.b1 rfl | exact Wk.t2 Wk.rfl (Wk.b1 rfl)) (by repeat' (first | exact True.intro | refine ⟨⟨_, _, _, rfl, rfl, rfl, WkO.rfl⟩, ?_⟩ | refine HeapOK.acc rfl rfl ?_)))))
  · intro c hc
    refine M.q (M.go rfl ?_)
    rw [show L.confAt i = c from hc]
    exact M.done (finQ.ret [(0, 0)] rfl rfl rfl Wk.rfl (by repeat' (first | exact True.intro | refine ⟨⟨_, _, _, rfl, rfl, rfl, WkO.rfl⟩, ?_⟩ | refine HeapOK.acc rfl rfl ?_)))
noncomputable def lConf : {F : LF // lowerF Try.prog 36 = some F} := ⟨_, rfl⟩
theorem Conf_spec (L : PLog) (hL : L.ok) : CallS Try.prog base 36 [.c (.ptr 0 0)] L.h (confV (L.confAt L.last)) L.h := by
  refine CallS.of noNG lConf.2 rfl (M.start (M.go rfl ?_))
  refine M.use (by first | exact True.intro | exact rfl) (Last_spec L hL) [(0, 0)] rfl rfl rfl (by repeat' (first | exact True.intro | refine ⟨⟨_, _, _, rfl, rfl, rfl, WkO.rfl⟩, ?_⟩ | refine HeapOK.acc rfl rfl ?_)) rfl rfl ?_
  refine M.go rfl ?_
  refine M.use (by first | exact True.intro | exact rfl) (ConfAt_spec L hL L.last ⟨by have := hL.ix; unfold PLog.last; omega, hL.top⟩) [(0, 0)] rfl rfl rfl (by repeat' (first | exact True.intro | refine ⟨⟨_, _, _, rfl, rfl, rfl, WkO.rfl⟩, ?_⟩ | refine HeapOK.acc rfl rfl ?_)) rfl rfl ?_
  refine M.go rfl ?_
  exact M.ret (M.go rfl (M.done (finQ.ret [(0, 0)] rfl rfl rfl (by first | exact Wk.rfl | exact Wk.uncap | exact Wk.nil | exact Wk.b1 rfl | exact Wk.t2 Wk.rfl (Wk.b1 rfl)) (by repeat' (first | exact True.intro | refine ⟨⟨_, _, _, rfl, rfl, rfl, WkO.rfl⟩, ?_⟩ | refine HeapOK.acc rfl rfl ?_)))))
noncomputable def lSnap : {F : LF // lowerF Try.prog 35 = some F} := ⟨_, rfl⟩
theorem Snap_spec (L : PLog) (hL : L.ok) : CallS Try.prog base 35 [.c (.ptr 0 0)] L.h L.S.own.v L.h := by
  refine CallS.of noNG lSnap.2 rfl (M.start (M.go rfl ?_))
  refine M.use0 trivial (ownS_spec L.S hL.S) rfl rfl rfl ?_
  refine M.go rfl ?_
  exact M.ret (M.go rfl (M.done (finQ.ret [(0, 0)] rfl rfl rfl (by first | exact Wk.rfl | exact Wk.uncap | exact Wk.nil | exact Wk.b1 rfl | exact Wk.t2 Wk.rfl (Wk.b1 rfl)) (by repeat' (first | exact True.intro | refine ⟨⟨_, _, _, rfl, rfl, rfl, WkO.rfl⟩, ?_⟩ | refine HeapOK.acc rfl rfl ?_)))))
end Go.Proofs.Yteegdhfekemhmaa

/- The log: what changes it. -/
namespace Go.Proofs.Yteegdhfekemhmaa
open Go.RowKit Sim Go Sym
set_option maxRecDepth 100000
set_option linter.unusedVariables false
set_option linter.unusedSimpArgs false
variable {base : Nat}
/-! Compact. -/
noncomputable def lComp : {F : LF // lowerF Try.prog 34 = some F} := ⟨_, rfl⟩
def PLog.compact (L : PLog) (i : Int) (dz : Bool) (d : List Nat) : PLog := ⟨⟨i, (L.term i).1, (L.confAt i).1, (L.confAt i).2, none, dz, d, none⟩, L.E.drop (i - L.S.ix).toNat, L.z && (entP L.E).isEmpty, none⟩
theorem drop_take {l : List Ent} {k : Nat} : ((entP l).drop k).take ((entP l).length - k) = entP (l.drop k) := by rw [List.take_of_length_le (by simp), entP, entP, List.map_drop]
theorem Comp_no (L : PLog) (hL : L.ok) (i : Int) (hi : I64 i) (dz : Bool) (d : List Nat) (dc : Option Nat) (hno : i ≤ L.S.ix ∨ L.last < i) : CallS Try.prog base 34 [.c (.ptr 0 0), .c (.p (.int .i64 i)), .c (.p (.tz dz 1 (byP d) dc))] L.h (.c (.p (.bs false))) L.h := by
  refine CallS.of noNG lComp.2 rfl (M.start (M.go rfl ?_))
  refine M.dec rfl (fun h2 => ?_) (fun h2 => ?_)
  · refine M.go rfl ?_
    exact M.ret (M.go rfl (M.done (finQ.ret [(0, 0)] rfl rfl rfl (by first | exact Wk.rfl | exact Wk.uncap | exact Wk.nil | exact Wk.b1 rfl | exact Wk.t2 Wk.rfl (Wk.b1 rfl)) (by repeat' (first | exact True.intro | refine ⟨⟨_, _, _, rfl, rfl, rfl, WkO.rfl⟩, ?_⟩ | refine HeapOK.acc rfl rfl ?_)))))
  · refine M.go rfl ?_
    refine M.use (by first | exact True.intro | exact rfl) (Last_spec L hL) [(0, 0)] rfl rfl rfl (by repeat' (first | exact True.intro | refine ⟨⟨_, _, _, rfl, rfl, rfl, WkO.rfl⟩, ?_⟩ | refine HeapOK.acc rfl rfl ?_)) rfl rfl ?_
    refine M.go rfl ?_
    refine M.cond rfl (fun h3 => ?_) (fun h3 => ?_)
    · refine M.go rfl ?_
      exact M.ret (M.go rfl (M.done (finQ.ret [(0, 0)] rfl rfl rfl (by first | exact Wk.rfl | exact Wk.uncap | exact Wk.nil | exact Wk.b1 rfl | exact Wk.t2 Wk.rfl (Wk.b1 rfl)) (by repeat' (first | exact True.intro | refine ⟨⟨_, _, _, rfl, rfl, rfl, WkO.rfl⟩, ?_⟩ | refine HeapOK.acc rfl rfl ?_)))))
    · omega
theorem Comp_yes (L : PLog) (hL : L.ok) (i : Int) (hi : I64 i) (dz : Bool) (d : List Nat) (dc : Option Nat) (hd : okB d) (h1 : L.S.ix < i) (h3 : i ≤ L.last) : CallS Try.prog base 34 [.c (.ptr 0 0), .c (.p (.int .i64 i)), .c (.p (.tz dz 1 (byP d) dc))] L.h (.c (.p (.bs true))) (L.compact i dz d).h := by
  refine CallS.of noNG lComp.2 rfl (M.start (M.go rfl ?_))
  refine M.dec rfl (fun h2 => ?_) (fun h2 => ?_)
  · omega
  · refine M.go rfl ?_
    refine M.use (by first | exact True.intro | exact rfl) (Last_spec L hL) [(0, 0)] rfl rfl rfl (by repeat' (first | exact True.intro | refine ⟨⟨_, _, _, rfl, rfl, rfl, WkO.rfl⟩, ?_⟩ | refine HeapOK.acc rfl rfl ?_)) rfl rfl ?_
    refine M.go rfl ?_
    refine M.cond rfl (fun h3 => ?_) (fun _ => ?_)
    · omega
    · refine M.go rfl ?_
      refine M.use (by first | exact True.intro | exact rfl) (Term_spec L hL i hi) [(0, 0)] rfl rfl rfl (by repeat' (first | exact True.intro | refine ⟨⟨_, _, _, rfl, rfl, rfl, WkO.rfl⟩, ?_⟩ | refine HeapOK.acc rfl rfl ?_)) rfl rfl ?_
      refine M.go rfl ?_
      refine M.use (by first | exact True.intro | exact rfl) (ConfAt_spec L hL i hi) [(0, 0)] rfl rfl rfl (by repeat' (first | exact True.intro | refine ⟨⟨_, _, _, rfl, rfl, rfl, WkO.rfl⟩, ?_⟩ | refine HeapOK.acc rfl rfl ?_)) rfl rfl ?_
      refine M.go rfl ?_
      refine M.use0 trivial (Bcl_spec dz (byP d) dc (by have := hd.1; rw [byP_len]; omega)) rfl rfl rfl ?_
      refine M.go rfl ?_
      refine M.regD (MD.go rfl ?_)
      have hw : IntKind.i64.wrap (i - L.S.ix) = i - L.S.ix := wr64 (by omega) (by have := hL.ix; have := hi.2; omega)
      rw [hw]
      have hle : (i - L.S.ix).toNat ≤ (entP L.E).length := by rw [entP_len]; unfold PLog.last at h3; omega
      refine MD.op trivial (SOp.sl rfl ⟨_, _, rfl, by omega, rfl⟩ rfl hle (Nat.le_refl _)) (MD.go rfl ?_)
      rw [drop_take]
      refine MD.use0 trivial (Ecl_spec _ (entP (L.E.drop (i - L.S.ix).toNat)) _ (by rw [entP_len]; have := hL.len; simp; omega)) rfl rfl rfl (MD.go rfl (MD.nil mixed (Fnl.nodup rfl) (M.go rfl ?_)))
      exact M.ret (M.go rfl (M.done (finQ.ret [(0, 0)] rfl rfl rfl (by first | exact Wk.rfl | exact Wk.uncap | exact Wk.nil | exact Wk.b1 rfl | exact Wk.t2 Wk.rfl (Wk.b1 rfl)) (by repeat' (first | exact True.intro | refine ⟨⟨_, _, _, rfl, rfl, rfl, WkO.rfl⟩, ?_⟩ | refine HeapOK.acc rfl rfl ?_)))))
/-! Reset. -/
noncomputable def lReset : {F : LF // lowerF Try.prog 56 = some F} := ⟨_, rfl⟩
def PLog.keeps (L : PLog) (s : Snp) : Bool := (L.term s.ix).2 && (decide (L.S.ix < s.ix) && decide ((L.term s.ix).1 = s.tm))
def PLog.reset (L : PLog) (s : Snp) : PLog := if L.keeps s = true then ⟨s.own, L.E.drop (s.ix - L.S.ix).toNat, L.z && (entP L.E).isEmpty, none⟩ else ⟨s.own, [], L.z && (entP L.E).isEmpty, none⟩
theorem PLog.term_true {L : PLog} {i : Int} (h : (L.term i).2 = true) (h1 : L.S.ix < i) : i ≤ L.last := by
  unfold PLog.term at h
  rw [if_neg (by omega)] at h
  split at h
  · cases h
  · omega
theorem Reset_spec (L : PLog) (hL : L.ok) (s : Snp) (hs : s.ok) : CallS Try.prog base 56 [.c (.ptr 0 0), s.v] L.h (.tup []) (L.reset s).h := by
  refine CallS.of noNG lReset.2 rfl (M.start (M.go rfl ?_))
  refine M.op trivial (SOp.slM (l := 0) (r := 0) (m := 0) rfl rfl ⟨_, _, rfl, by omega, rfl⟩ ⟨_, _, rfl, by omega, rfl⟩ (by omega) (by omega) (by omega)) ?_
  refine M.go rfl ?_
  refine M.use (by first | exact True.intro | exact rfl) (Term_spec L hL s.ix hs.ix) [(0, 0)] rfl rfl rfl (by repeat' (first | exact True.intro | refine ⟨⟨_, _, _, rfl, rfl, rfl, WkO.rfl⟩, ?_⟩ | refine HeapOK.acc rfl rfl ?_)) rfl rfl ?_
  refine M.go rfl ?_
  have hz : ((entP L.E).drop 0).take (0 - 0) = entP [] := by simp [entP]
  rw [hz]
  refine M.decC (s := 6) rfl (fun h1 => ?_) (fun h1 => ?_)
  · have k1 : L.keeps s = (decide (L.S.ix < s.ix) && decide ((L.term s.ix).1 = s.tm)) := by rw [PLog.keeps, h1, Bool.true_and]
    by_cases h2 : L.S.ix < s.ix
    · have k2 : L.keeps s = decide ((L.term s.ix).1 = s.tm) := by rw [k1, decide_eq_true h2, Bool.true_and]
      have h3 := PLog.term_true h1 h2
      refine M.regD (MD.goN 9 rfl (MD.op rfl (SOp.binT rfl rfl rfl (decide_eq_true h2)) (MD.go rfl (MD.nil mixed (Fnl.nodup rfl) (M.go rfl ?_)))))
      refine M.cond rfl (fun h4 => ?_) (fun h4 => ?_)
      · refine M.go rfl ?_
        refine M.regD (MD.go rfl ?_)
        have hw : IntKind.i64.wrap (s.ix - L.S.ix) = s.ix - L.S.ix := wr64 (by omega) (by have := hL.ix; have := hs.ix.2; omega)
        rw [hw]
        have hle : (s.ix - L.S.ix).toNat ≤ (entP L.E).length := by rw [entP_len]; unfold PLog.last at h3; omega
        refine MD.op trivial (SOp.sl rfl ⟨_, _, rfl, by omega, rfl⟩ rfl hle (Nat.le_refl _)) (MD.go rfl ?_)
        rw [drop_take]
        refine MD.use0 trivial (Ecl_spec _ (entP (L.E.drop (s.ix - L.S.ix).toNat)) _ (by rw [entP_len]; have := hL.len; simp; omega)) rfl rfl rfl (MD.go rfl (MD.nil mixed (Fnl.nodup rfl) (M.go rfl ?_)))
        refine M.use0 trivial (ownS_spec s hs) rfl rfl rfl ?_
        refine M.go rfl ?_
        rw [show L.reset s = ⟨s.own, L.E.drop (s.ix - L.S.ix).toNat, L.z && (entP L.E).isEmpty, none⟩ from if_pos (by rw [k2]; exact decide_eq_true h4)]
        exact M.done (finQ.normal [(0, 0)] rfl rfl rfl Wk.rfl (by repeat' (first | exact True.intro | refine ⟨⟨_, _, _, rfl, rfl, rfl, WkO.rfl⟩, ?_⟩ | refine HeapOK.acc rfl rfl ?_)))
      · refine M.go rfl ?_
        refine M.use0 trivial (ownS_spec s hs) rfl rfl rfl ?_
        refine M.go rfl ?_
        rw [show L.reset s = ⟨s.own, [], L.z && (entP L.E).isEmpty, none⟩ from if_neg (by rw [k2]; simpa using h4)]
        exact M.done (finQ.normal [(0, 0)] rfl rfl rfl Wk.rfl ⟨⟨_, _, _, rfl, rfl, rfl, WkO.row ⟨Wk.rfl, Wk.rfl, Wk.rfl, Wk.rfl, Wk.uncap, trivial⟩⟩, trivial⟩)
    · refine M.regD (MD.goN 9 rfl (MD.op rfl (SOp.binF rfl rfl rfl (decide_eq_false h2)) (MD.go rfl (MD.nil mixed (Fnl.nodup rfl) (M.go rfl ?_)))))
      refine M.use0 trivial (ownS_spec s hs) rfl rfl rfl ?_
      refine M.go rfl ?_
      rw [show L.reset s = ⟨s.own, [], L.z && (entP L.E).isEmpty, none⟩ from if_neg (by rw [k1, decide_eq_false h2]; simp)]
      exact M.done (finQ.normal [(0, 0)] rfl rfl rfl Wk.rfl ⟨⟨_, _, _, rfl, rfl, rfl, WkO.row ⟨Wk.rfl, Wk.rfl, Wk.rfl, Wk.rfl, Wk.uncap, trivial⟩⟩, trivial⟩)
  · refine M.regD (MD.go rfl (MD.nil mixed (Fnl.nodup rfl) (M.go rfl ?_)))
    refine M.use0 trivial (ownS_spec s hs) rfl rfl rfl ?_
    refine M.go rfl ?_
    rw [show L.reset s = ⟨s.own, [], L.z && (entP L.E).isEmpty, none⟩ from if_neg (by rw [PLog.keeps, h1]; simp)]
    exact M.done (finQ.normal [(0, 0)] rfl rfl rfl Wk.rfl ⟨⟨_, _, _, rfl, rfl, rfl, WkO.row ⟨Wk.rfl, Wk.rfl, Wk.rfl, Wk.rfl, Wk.uncap, trivial⟩⟩, trivial⟩)
end Go.Proofs.Yteegdhfekemhmaa

/- The log: a new one, and what puts entries. -/
namespace Go.Proofs.Yteegdhfekemhmaa
open Go.RowKit Sim Go Sym
set_option maxRecDepth 100000
set_option linter.unusedVariables false
set_option linter.unusedSimpArgs false
variable {base : Nat}
/-! New. -/
noncomputable def lNew : {F : LF // lowerF Try.prog 31 = some F} := ⟨_, rfl⟩
def nrow (s : Snp) (x : XC) : List XC := [.p (.int .i64 s.ix), .p (.int .i64 s.tm), .p (.tz s.cz 1 (inP s.cf) s.cc), .p (.tz s.dz 1 (byP s.d) s.dc), x]
theorem new_loop (s : Snp) (z : Bool) (c : Option Nat) (l : List Ent) (hl : l.length ≤ 10000000000) (hok : ∀ e ∈ l, e.ok) (Q : QX) (hq : Q (.exit 0) [(5, .c (.ptr 0 0))] ⟨[(1, accO 4 (entP (l.map Ent.own))), (0, some (.row (nrow s (.acc 1 4 (entP (l.map Ent.own)))) true))], 2⟩) :
    ∀ (rest pre : List Ent), l = pre ++ rest → XH Try.prog base lNew.1.n 0 (lNew.1.c.lp 0) [(29, .c (.p (.tz z 4 (entP l) c))), (30, .c (.p (.int .i64 (entP l).length))), (31, .c (.p (.int .i64 pre.length))), (5, .c (.ptr 0 0))] ⟨[(1, accO 4 (entP (pre.map Ent.own))), (0, some (.row (nrow s (.acc 1 4 (entP (pre.map Ent.own)))) true))], 2⟩ Q := by
  intro rest
  induction rest with
  | nil =>
    intro pre hp
    refine M.round (M.go rfl ?_)
    simp at hp
    subst hp
    refine M.cond rfl (fun hc => ?_) (fun hc => ?_)
    · simp [entP] at hc
    · cases l with
      | nil =>
        refine M.ren [(0, 0), (1, 1)] ?_ trivial rfl (by repeat' (first | exact True.intro | refine ⟨⟨_, _, rfl, rfl, Wk.rfl⟩, ?_⟩ | refine ⟨⟨_, _, accV_ren rfl, rfl, Wk.rfl⟩, ?_⟩ | refine ⟨⟨_, _, accV_ren rfl, rfl, Wk.acc0⟩, ?_⟩ | refine ⟨⟨_, _, rfl, rfl, Wk.uncap⟩, ?_⟩ | refine ⟨⟨_, _, rfl, rfl, Wk.nil⟩, ?_⟩)) (by repeat' (first | exact True.intro | refine ⟨⟨_, _, _, rfl, rfl, rfl, WkO.rfl⟩, ?_⟩ | refine HeapOK.acc rfl rfl ?_)) (e' := [(5, .c (.ptr 0 0))]) (h' := ⟨[(1, accO 4 (entP (([] : List Ent).map Ent.own))), (0, some (.row (nrow s (.acc 1 4 (entP (([] : List Ent).map Ent.own)))) true))], 2⟩)
        exact M.exit (M.go rfl (M.done hq))
      | cons e0 l =>
        refine M.ren [(0, 0), (1, 1)] ?_ trivial rfl (by repeat' (first | exact True.intro | refine ⟨⟨_, _, rfl, rfl, Wk.rfl⟩, ?_⟩ | refine ⟨⟨_, _, accV_ren rfl, rfl, Wk.rfl⟩, ?_⟩ | refine ⟨⟨_, _, accV_ren rfl, rfl, Wk.acc0⟩, ?_⟩ | refine ⟨⟨_, _, rfl, rfl, Wk.uncap⟩, ?_⟩ | refine ⟨⟨_, _, rfl, rfl, Wk.nil⟩, ?_⟩)) (by repeat' (first | exact True.intro | refine ⟨⟨_, _, _, rfl, rfl, rfl, WkO.rfl⟩, ?_⟩ | refine HeapOK.acc rfl rfl ?_)) (e' := [(5, .c (.ptr 0 0))]) (h' := ⟨[(1, accO 4 (entP ((e0 :: l).map Ent.own))), (0, some (.row (nrow s (.acc 1 4 (entP ((e0 :: l).map Ent.own)))) true))], 2⟩)
        exact M.exit (M.go rfl (M.done hq))
  | cons e rest ih =>
    intro pre hp
    have he : e.ok := hok e (by rw [hp]; simp)
    have hlen : (entP l).length = pre.length + (rest.length + 1) := by rw [hp]; simp [entP]
    have hll : pre.length + rest.length < 10000000000 := by rw [hp] at hl; simp at hl; omega
    have hla : (entP (pre.map Ent.own)).length = pre.length := by simp [entP]
    have hw2 : IntKind.i64.wrap ((pre.length : Int) + 1) = ((pre ++ [e]).length : Int) := by rw [wr64 (by omega) (by omega)]; simp
    have ih' := ih (pre ++ [e]) (by rw [hp]; simp)
    rw [show entP ((pre ++ [e]).map Ent.own) = entP (pre.map Ent.own) ++ [e.own.pc] by simp [entP]] at ih'
    refine M.round (M.go rfl ?_)
    refine M.cond rfl (fun hc => ?_) (fun hc => ?_)
    · refine M.go rfl ?_
      have hu : (entP l)[((pre.length : Int)).toNat]? = some e.pc := by rw [hp]; exact at_app _ _ _ _
      refine M.op trivial (SOp.ia rfl rfl (by omega) hu) ?_
      refine M.op trivial (SOp.ldne rfl hu rfl rfl rfl) ?_
      refine M.go rfl ?_
      cases pre with
      | nil =>
        refine M.regF (MF.go rfl ?_)
        refine MF.use0 trivial (own_spec e he.d) rfl rfl rfl (MF.go rfl ?_)
        refine MF.op trivial (SOp.appA0 rfl rfl (.own rfl rfl) (by simp) (by simp)) (MF.go rfl (MF.nil mixed (Fnl.nodup rfl) rfl ⟨⟨stepX_ok rfl, stepX_ok rfl, trivial⟩, trivial⟩ (M.go rfl ?_)))
        rw [hw2]
        exact M.again (XH.ren [(0, 0), (1, 4)] ih' rfl (by repeat' (first | exact True.intro | refine ⟨⟨_, _, rfl, rfl, Wk.rfl⟩, ?_⟩ | refine ⟨⟨_, _, accV_ren rfl, rfl, Wk.rfl⟩, ?_⟩ | refine ⟨⟨_, _, accV_ren rfl, rfl, Wk.acc0⟩, ?_⟩ | refine ⟨⟨_, _, rfl, rfl, Wk.uncap⟩, ?_⟩ | refine ⟨⟨_, _, rfl, rfl, Wk.nil⟩, ?_⟩)) (by repeat' (first | exact True.intro | refine ⟨⟨_, _, _, rfl, rfl, rfl, WkO.rfl⟩, ?_⟩ | refine HeapOK.acc rfl rfl ?_)))
      | cons e0 pre =>
        refine M.regF (MF.go rfl ?_)
        refine MF.use0 trivial (own_spec e he.d) rfl rfl rfl (MF.go rfl ?_)
        refine MF.op trivial (SOp.appA rfl rfl rfl (.own rfl rfl) (by simp) (by simp [entP]; simp at hll; omega)) (MF.go rfl (MF.nil mixed (Fnl.nodup rfl) rfl ⟨⟨stepX_ok rfl, stepX_ok rfl, trivial⟩, trivial⟩ (M.go rfl ?_)))
        rw [hw2]
        exact M.again (XH.ren [(0, 0), (1, 4)] ih' rfl (by repeat' (first | exact True.intro | refine ⟨⟨_, _, rfl, rfl, Wk.rfl⟩, ?_⟩ | refine ⟨⟨_, _, accV_ren rfl, rfl, Wk.rfl⟩, ?_⟩ | refine ⟨⟨_, _, accV_ren rfl, rfl, Wk.acc0⟩, ?_⟩ | refine ⟨⟨_, _, rfl, rfl, Wk.uncap⟩, ?_⟩ | refine ⟨⟨_, _, rfl, rfl, Wk.nil⟩, ?_⟩)) (by repeat' (first | exact True.intro | refine ⟨⟨_, _, _, rfl, rfl, rfl, WkO.rfl⟩, ?_⟩ | refine HeapOK.acc rfl rfl ?_)))
    · rw [hlen] at hc; omega
def newOk (s : Snp) (l : List Ent) : Bool := !(decide (s.ix < 0) || (decide (s.tm < 0) || !mayF s.ix s.tm l))
theorem New_no (s : Snp) (hs : s.ok) (z : Bool) (c : Option Nat) (l : List Ent) (hl : l.length ≤ 10000000000) (hok : ∀ e ∈ l, e.ok) (hno : newOk s l = false) : CallS Try.prog base 31 [s.v, .c (.p (.tz z 4 (entP l) c))] ⟨[], 0⟩ (.c (.p .nilp)) ⟨[], 0⟩ := by
  refine CallS.of noNG lNew.2 rfl (M.start (M.go rfl ?_))
  refine M.dec rfl (fun h1 => ?_) (fun h1 => ?_)
  · refine M.go rfl ?_
    exact M.ret (M.go rfl (M.done (finQ.ret [] rfl rfl rfl (by first | exact Wk.rfl | exact Wk.uncap | exact Wk.nil | exact Wk.b1 rfl | exact Wk.t2 Wk.rfl (Wk.b1 rfl)) (by repeat' (first | exact True.intro | refine ⟨⟨_, _, _, rfl, rfl, rfl, WkO.rfl⟩, ?_⟩ | refine HeapOK.acc rfl rfl ?_)))))
  · refine M.go rfl ?_
    refine M.dec rfl (fun h2 => ?_) (fun h2 => ?_)
    · refine M.go rfl ?_
      exact M.ret (M.go rfl (M.done (finQ.ret [] rfl rfl rfl (by first | exact Wk.rfl | exact Wk.uncap | exact Wk.nil | exact Wk.b1 rfl | exact Wk.t2 Wk.rfl (Wk.b1 rfl)) (by repeat' (first | exact True.intro | refine ⟨⟨_, _, _, rfl, rfl, rfl, WkO.rfl⟩, ?_⟩ | refine HeapOK.acc rfl rfl ?_)))))
    · refine M.go rfl ?_
      refine M.use0 rfl (may_spec z c l s.ix s.tm (by omega) hok hs.ix) rfl rfl rfl ?_
      refine M.go rfl ?_
      have hm : mayF s.ix s.tm l = false := by simpa [newOk, h1, h2] using hno
      refine M.condB rfl (fun h3 => ?_) (fun h3 => ?_)
      · refine M.go rfl ?_
        exact M.ret (M.go rfl (M.done (finQ.ret [] rfl rfl rfl (by first | exact Wk.rfl | exact Wk.uncap | exact Wk.nil | exact Wk.b1 rfl | exact Wk.t2 Wk.rfl (Wk.b1 rfl)) (by repeat' (first | exact True.intro | refine ⟨⟨_, _, _, rfl, rfl, rfl, WkO.rfl⟩, ?_⟩ | refine HeapOK.acc rfl rfl ?_)))))
      · rw [hm] at h3; simp at h3
theorem New_yes (s : Snp) (hs : s.ok) (z : Bool) (c : Option Nat) (l : List Ent) (hl : l.length ≤ 10000000000) (hok : ∀ e ∈ l, e.ok) (hno : newOk s l = true) : CallS Try.prog base 31 [s.v, .c (.p (.tz z 4 (entP l) c))] ⟨[], 0⟩ (.c (.ptr 0 0)) (PLog.h ⟨s.own, l.map Ent.own, true, none⟩) := by
  refine CallS.of noNG lNew.2 rfl (M.start (M.go rfl ?_))
  have h1 : ¬ s.ix < 0 := fun h => by simp [newOk, h] at hno
  have h2 : ¬ s.tm < 0 := fun h => by simp [newOk, h] at hno
  have hm : mayF s.ix s.tm l = true := by simpa [newOk, h1, h2] using hno
  refine M.dec rfl (fun h => absurd h h1) (fun _ => ?_)
  · refine M.go rfl ?_
    refine M.dec rfl (fun h => absurd h h2) (fun _ => ?_)
    · refine M.go rfl ?_
      refine M.use0 rfl (may_spec z c l s.ix s.tm (by omega) hok hs.ix) rfl rfl rfl ?_
      refine M.go rfl ?_
      refine M.condB rfl (fun h3 => ?_) (fun _ => ?_)
      · rw [hm] at h3; simp at h3
      · refine M.go rfl ?_
        refine M.use0 trivial (ownS_spec s hs) rfl rfl rfl ?_
        refine M.go rfl ?_
        refine M.wkH (b0 := 1) (o' := .row (nrow s.own (.acc 2 4 [])) true) rfl rfl (WkO.row ⟨Wk.rfl, Wk.rfl, Wk.rfl, Wk.rfl, Wk.of rfl, trivial⟩) ?_
        refine M.loop (XH.ren [(0, 1), (1, 2)] (new_loop s.own z c l hl hok _ ?_ l [] rfl) rfl (by repeat' (first | exact True.intro | refine ⟨⟨_, _, rfl, rfl, Wk.rfl⟩, ?_⟩ | refine ⟨⟨_, _, accV_ren rfl, rfl, Wk.rfl⟩, ?_⟩ | refine ⟨⟨_, _, accV_ren rfl, rfl, Wk.acc0⟩, ?_⟩ | refine ⟨⟨_, _, rfl, rfl, Wk.uncap⟩, ?_⟩ | refine ⟨⟨_, _, rfl, rfl, Wk.nil⟩, ?_⟩)) (by repeat' (first | exact True.intro | refine ⟨⟨_, _, _, rfl, rfl, rfl, WkO.rfl⟩, ?_⟩ | refine HeapOK.acc rfl rfl ?_)))
        refine M.q (M.goN 2 rfl ?_)
        refine M.accFR (b0 := 0) (o := 4) (b := 1) rfl rfl rfl rfl rfl ?_
        refine M.go rfl ?_
        exact M.ret (M.go rfl (M.done (finQ.ret [(0, 0)] rfl rfl rfl (by first | exact Wk.rfl | exact Wk.uncap | exact Wk.nil | exact Wk.b1 rfl | exact Wk.t2 Wk.rfl (Wk.b1 rfl)) (by repeat' (first | exact True.intro | refine ⟨⟨_, _, _, rfl, rfl, rfl, WkO.rfl⟩, ?_⟩ | refine HeapOK.acc rfl rfl ?_)))))
/-- The first append to what stays: from then on it grows. -/
theorem appCA {P : Program} {n : Nat} {e : Env} {h : HS} {s bytes c : Nat} {x y : LX} {v : XC} {z : Bool} {ex el : List PC} {y0 : PC} {ey : List PC} (hx : xev e x = some (.c (.p (.tz z s ex (some c))))) (hy : xev e y = some (.c v)) (hel : ElsX h s v el) (h0 : el ≠ []) (hc : c < ex.length + el.length) (hb : (ex.length + el.length) * bytes ≤ 140737488355328) (he : ex ++ el = y0 :: ey) :
    SOp P n (.app s bytes x y) e h (.c (.acc h.next s (y0 :: ey))) (h.newO (.els s (y0 :: ey))) := by
  have := SOp.appC (P := P) (n := n) hx hy hel h0 hc hb
  rw [he, ← List.length_append, he] at this
  exact this.sv rfl
/-! Put. -/
noncomputable def lPut : {F : LF // lowerF Try.prog 38 = some F} := ⟨_, rfl⟩
theorem put_loop (s : Snp) (z : Bool) (c : Option Nat) (l : List Ent) (hl : l.length ≤ 10000000000) (hok : ∀ e ∈ l, e.ok) (Q : QX) :
    ∀ (rest pre : List Ent) (x0 : PC) (ex : List PC), l = pre ++ rest → ex.length + rest.length ≤ 100000000000 → (∀ y0 ey, y0 :: ey = x0 :: ex ++ entP (rest.map Ent.own) → Q (.exit 0) [(0, .c (.ptr 0 0))] ⟨[(1, some (.els 4 (y0 :: ey))), (0, some (.row (nrow s (.acc 1 4 (y0 :: ey))) true))], 2⟩) →
    XH Try.prog base lPut.1.n 1 (lPut.1.c.lp 0) [(65, .c (.p (.tz z 4 (entP l) c))), (66, .c (.p (.int .i64 (entP l).length))), (67, .c (.p (.int .i64 pre.length))), (0, .c (.ptr 0 0))] ⟨[(1, some (.els 4 (x0 :: ex))), (0, some (.row (nrow s (.acc 1 4 (x0 :: ex))) true))], 2⟩ Q := by
  intro rest
  induction rest with
  | nil =>
    intro pre x0 ex hp hx hq
    refine M.round (M.go rfl ?_)
    simp at hp
    subst hp
    refine M.cond rfl (fun hc => ?_) (fun hc => ?_)
    · simp [entP] at hc
    · refine M.ren [(0, 0), (1, 1)] ?_ trivial rfl (by repeat' (first | exact True.intro | refine ⟨⟨_, _, rfl, rfl, Wk.rfl⟩, ?_⟩ | refine ⟨⟨_, _, accV_ren rfl, rfl, Wk.rfl⟩, ?_⟩ | refine ⟨⟨_, _, accV_ren rfl, rfl, Wk.acc0⟩, ?_⟩ | refine ⟨⟨_, _, rfl, rfl, Wk.uncap⟩, ?_⟩ | refine ⟨⟨_, _, rfl, rfl, Wk.nil⟩, ?_⟩)) (by repeat' (first | exact True.intro | refine ⟨⟨_, _, _, rfl, rfl, rfl, WkO.rfl⟩, ?_⟩ | refine HeapOK.acc rfl rfl ?_)) (e' := [(0, .c (.ptr 0 0))]) (h' := ⟨[(1, some (.els 4 (x0 :: ex))), (0, some (.row (nrow s (.acc 1 4 (x0 :: ex))) true))], 2⟩)
      exact M.exit (M.go rfl (M.done (hq x0 ex (by simp [entP]))))
  | cons e rest ih =>
    intro pre x0 ex hp hx hq
    have he : e.ok := hok e (by rw [hp]; simp)
    have hlen : (entP l).length = pre.length + (rest.length + 1) := by rw [hp]; simp [entP]
    have hll : pre.length + rest.length < 10000000000 := by rw [hp] at hl; simp at hl; omega
    have hw2 : IntKind.i64.wrap ((pre.length : Int) + 1) = ((pre ++ [e]).length : Int) := by rw [wr64 (by omega) (by omega)]; simp
    simp only [List.length_cons] at hx
    have ih' := ih (pre ++ [e]) x0 (ex ++ [e.own.pc]) (by rw [hp]; simp) (by simp; omega) (fun y0 ey hy => hq y0 ey (by rw [hy]; simp [entP]))
    refine M.round (M.go rfl ?_)
    refine M.cond rfl (fun hc => ?_) (fun hc => ?_)
    · refine M.go rfl ?_
      have hu : (entP l)[((pre.length : Int)).toNat]? = some e.pc := by rw [hp]; exact at_app _ _ _ _
      refine M.op trivial (SOp.ia rfl rfl (by omega) hu) ?_
      refine M.op trivial (SOp.ldne rfl hu rfl rfl rfl) ?_
      refine M.go rfl ?_
      refine M.regF (MF.go rfl ?_)
      refine MF.use0 trivial (own_spec e he.d) rfl rfl rfl (MF.go rfl ?_)
      refine MF.op trivial (SOp.appA rfl rfl rfl (.own rfl rfl) (by simp) (by simp; omega)) (MF.go rfl (MF.nil mixed (Fnl.nodup rfl) rfl ⟨⟨stepX_ok rfl, stepX_ok rfl, trivial⟩, trivial⟩ (M.go rfl ?_)))
      rw [hw2]
      exact M.again (XH.ren [(0, 0), (1, 4)] ih' rfl (by repeat' (first | exact True.intro | refine ⟨⟨_, _, rfl, rfl, Wk.rfl⟩, ?_⟩ | refine ⟨⟨_, _, accV_ren rfl, rfl, Wk.rfl⟩, ?_⟩ | refine ⟨⟨_, _, accV_ren rfl, rfl, Wk.acc0⟩, ?_⟩ | refine ⟨⟨_, _, rfl, rfl, Wk.uncap⟩, ?_⟩ | refine ⟨⟨_, _, rfl, rfl, Wk.nil⟩, ?_⟩)) (by repeat' (first | exact True.intro | refine ⟨⟨_, _, _, rfl, rfl, rfl, WkO.rfl⟩, ?_⟩ | refine HeapOK.acc rfl rfl ?_)))
    · rw [hlen] at hc; omega
/-- The first one goes behind what was cut. -/
theorem put_first (s : Snp) (z : Bool) (c : Option Nat) (e : Ent) (l : List Ent) (hl : (e :: l).length ≤ 10000000000) (hok : ∀ e' ∈ e :: l, e'.ok) (z2 : Bool) (T : List PC) (hT : T.length ≤ 10000000000) (Q : QX) (hq : ∀ y0 ey, y0 :: ey = T ++ entP ((e :: l).map Ent.own) → Q (.exit 0) [(0, .c (.ptr 0 0))] ⟨[(1, some (.els 4 (y0 :: ey))), (0, some (.row (nrow s (.acc 1 4 (y0 :: ey))) true))], 2⟩) :
    XH Try.prog base lPut.1.n 1 (lPut.1.c.lp 0) [(65, .c (.p (.tz z 4 (entP (e :: l)) c))), (66, .c (.p (.int .i64 (entP (e :: l)).length))), (67, .c (.p (.int .i64 0))), (0, .c (.ptr 0 0))] ⟨[(0, some (.row (nrow s (.p (.tz z2 4 T (some T.length)))) true))], 1⟩ Q := by
  have he : e.ok := hok e (by simp)
  refine M.round (M.go rfl ?_)
  refine M.cond rfl (fun hc => ?_) (fun hc => ?_)
  · refine M.go rfl ?_
    have hu : (entP (e :: l))[((0 : Int)).toNat]? = some e.pc := rfl
    refine M.op trivial (SOp.ia rfl rfl (by omega) hu) ?_
    refine M.op trivial (SOp.ldne rfl hu rfl rfl rfl) ?_
    refine M.go rfl ?_
    refine M.regF (MF.go rfl ?_)
    refine MF.use0 trivial (own_spec e he.d) rfl rfl rfl (MF.go rfl ?_)
    obtain ⟨x0, ex, hx⟩ : ∃ x0 ex, T ++ [e.own.pc] = x0 :: ex := by cases T <;> simp
    refine MF.op trivial (appCA rfl rfl (.own rfl rfl) (by simp) (by simp) (by simp; omega) hx) (MF.go rfl (MF.nil mixed (Fnl.nodup rfl) rfl ⟨⟨stepX_ok rfl, stepX_ok rfl, trivial⟩, trivial⟩ (M.go rfl ?_)))
    have hxl : T.length + 1 = ex.length + 1 := by have := congrArg List.length hx; simpa using this
    have ih' := put_loop (base := base) s z c (e :: l) hl hok Q l [e] x0 ex rfl (by simp at hl; omega) (fun y0 ey hy => hq y0 ey (by rw [hy, ← hx]; simp [entP]))
    exact M.again (XH.ren [(0, 0), (1, 3)] ih' rfl (by repeat' (first | exact True.intro | refine ⟨⟨_, _, rfl, rfl, Wk.rfl⟩, ?_⟩ | refine ⟨⟨_, _, accV_ren rfl, rfl, Wk.rfl⟩, ?_⟩ | refine ⟨⟨_, _, accV_ren rfl, rfl, Wk.acc0⟩, ?_⟩ | refine ⟨⟨_, _, rfl, rfl, Wk.uncap⟩, ?_⟩ | refine ⟨⟨_, _, rfl, rfl, Wk.nil⟩, ?_⟩)) (by repeat' (first | exact True.intro | refine ⟨⟨_, _, _, rfl, rfl, rfl, WkO.rfl⟩, ?_⟩ | refine HeapOK.acc rfl rfl ?_)))
  · simp [entP] at hc
def PLog.frm (l : List Ent) : Int := (l.headD default).ix
def PLog.putOk (L : PLog) (l : List Ent) : Bool := match l with
  | [] => false
  | e :: _ => decide (L.S.ix < e.ix) && (decide (e.ix ≤ L.last + 1) && mayF (e.ix - 1) (L.term (e.ix - 1)).1 l)
def PLog.put (L : PLog) (l : List Ent) : PLog := ⟨L.S, L.E.take ((l.headD default).ix - L.S.ix - 1).toNat ++ l.map Ent.own, true, none⟩
theorem Put_nil (L : PLog) (z : Bool) (c : Option Nat) : CallS Try.prog base 38 [.c (.ptr 0 0), .c (.p (.tz z 4 [] c))] L.h (.c (.p (.bs false))) L.h := by
  refine CallS.of noNG lPut.2 rfl (M.start (M.go rfl ?_))
  refine M.condB rfl (fun h => ?_) (fun h => ?_)
  · refine M.go rfl ?_
    exact M.ret (M.go rfl (M.done (finQ.ret [(0, 0)] rfl rfl rfl (by first | exact Wk.rfl | exact Wk.uncap | exact Wk.nil | exact Wk.b1 rfl | exact Wk.t2 Wk.rfl (Wk.b1 rfl)) (by repeat' (first | exact True.intro | refine ⟨⟨_, _, _, rfl, rfl, rfl, WkO.rfl⟩, ?_⟩ | refine HeapOK.acc rfl rfl ?_)))))
  · exact absurd h (by decide)
theorem Put_no (L : PLog) (hL : L.ok) (hmax : L.last < 9223372036854775807) (z : Bool) (c : Option Nat) (e : Ent) (l : List Ent) (hl : (e :: l).length ≤ 10000000000) (hok : ∀ e' ∈ e :: l, e'.ok) (hno : L.putOk (e :: l) = false) : CallS Try.prog base 38 [.c (.ptr 0 0), .c (.p (.tz z 4 (entP (e :: l)) c))] L.h (.c (.p (.bs false))) L.h := by
  have he : e.ok := hok e (by simp)
  refine CallS.of noNG lPut.2 rfl (M.start (M.go rfl ?_))
  refine M.cond rfl (fun h => ?_) (fun h => ?_)
  · exfalso; simp [entP] at h; omega
  · refine M.go rfl ?_
    have hu : (entP (e :: l))[((0 : Int)).toNat]? = some e.pc := rfl
    refine M.op trivial (SOp.ia rfl rfl (by omega) hu) ?_
    refine M.go rfl ?_
    refine M.op trivial (SOp.ld1e rfl hu rfl rfl rfl) ?_
    refine M.go rfl ?_
    refine M.dec rfl (fun h1 => ?_) (fun h1 => ?_)
    · refine M.go rfl ?_
      exact M.ret (M.go rfl (M.done (finQ.ret [(0, 0)] rfl rfl rfl (by first | exact Wk.rfl | exact Wk.uncap | exact Wk.nil | exact Wk.b1 rfl | exact Wk.t2 Wk.rfl (Wk.b1 rfl)) (by repeat' (first | exact True.intro | refine ⟨⟨_, _, _, rfl, rfl, rfl, WkO.rfl⟩, ?_⟩ | refine HeapOK.acc rfl rfl ?_)))))
    · refine M.go rfl ?_
      refine M.use (by first | exact True.intro | exact rfl) (Last_spec L hL) [(0, 0)] rfl rfl rfl (by repeat' (first | exact True.intro | refine ⟨⟨_, _, _, rfl, rfl, rfl, WkO.rfl⟩, ?_⟩ | refine HeapOK.acc rfl rfl ?_)) rfl rfl ?_
      refine M.go rfl ?_
      have hw : IntKind.i64.wrap (L.last + 1) = L.last + 1 := wr64 (by unfold PLog.last; have := hL.ix; omega) (by omega)
      rw [hw]
      refine M.cond rfl (fun h2 => ?_) (fun h2 => ?_)
      · refine M.go rfl ?_
        exact M.ret (M.go rfl (M.done (finQ.ret [(0, 0)] rfl rfl rfl (by first | exact Wk.rfl | exact Wk.uncap | exact Wk.nil | exact Wk.b1 rfl | exact Wk.t2 Wk.rfl (Wk.b1 rfl)) (by repeat' (first | exact True.intro | refine ⟨⟨_, _, _, rfl, rfl, rfl, WkO.rfl⟩, ?_⟩ | refine HeapOK.acc rfl rfl ?_)))))
      · refine M.go rfl ?_
        have hw2 : IntKind.i64.wrap (e.ix - 1) = e.ix - 1 := wr64 (by have := hL.ix; omega) (by have := he.ix.2; omega)
        rw [hw2]
        have hi2 : I64 (e.ix - 1) := ⟨by have := hL.ix; omega, by have := he.ix.2; omega⟩
        refine M.use (by first | exact True.intro | exact rfl) (Term_spec L hL (e.ix - 1) hi2) [(0, 0)] rfl rfl rfl (by repeat' (first | exact True.intro | refine ⟨⟨_, _, _, rfl, rfl, rfl, WkO.rfl⟩, ?_⟩ | refine HeapOK.acc rfl rfl ?_)) rfl rfl ?_
        refine M.go rfl ?_
        rw [hw2]
        refine M.use0 trivial (may_spec z c (e :: l) (e.ix - 1) (L.term (e.ix - 1)).1 (by omega) hok hi2) rfl rfl rfl ?_
        refine M.go rfl ?_
        have hm : mayF (e.ix - 1) (L.term (e.ix - 1)).1 (e :: l) = false := by
          have h3 : L.S.ix < e.ix := by omega
          have h4 : e.ix ≤ L.last + 1 := by omega
          simpa [PLog.putOk, h3, h4] using hno
        refine M.condB rfl (fun h5 => ?_) (fun h5 => ?_)
        · refine M.go rfl ?_
          exact M.ret (M.go rfl (M.done (finQ.ret [(0, 0)] rfl rfl rfl (by first | exact Wk.rfl | exact Wk.uncap | exact Wk.nil | exact Wk.b1 rfl | exact Wk.t2 Wk.rfl (Wk.b1 rfl)) (by repeat' (first | exact True.intro | refine ⟨⟨_, _, _, rfl, rfl, rfl, WkO.rfl⟩, ?_⟩ | refine HeapOK.acc rfl rfl ?_)))))
        · rw [hm] at h5; simp at h5
theorem Put_yes (L : PLog) (hL : L.ok) (hmax : L.last < 9223372036854775807) (z : Bool) (c : Option Nat) (e : Ent) (l : List Ent) (hl : (e :: l).length ≤ 10000000000) (hok : ∀ e' ∈ e :: l, e'.ok) (hno : L.putOk (e :: l) = true) : CallS Try.prog base 38 [.c (.ptr 0 0), .c (.p (.tz z 4 (entP (e :: l)) c))] L.h (.c (.p (.bs true))) (L.put (e :: l)).h := by
  have he : e.ok := hok e (by simp)
  simp only [PLog.putOk, Bool.and_eq_true, decide_eq_true_eq] at hno
  obtain ⟨h3, h4, hm⟩ := hno
  refine CallS.of noNG lPut.2 rfl (M.start (M.go rfl ?_))
  refine M.cond rfl (fun h => ?_) (fun h => ?_)
  · exfalso; simp [entP] at h; omega
  · refine M.go rfl ?_
    have hu : (entP (e :: l))[((0 : Int)).toNat]? = some e.pc := rfl
    refine M.op trivial (SOp.ia rfl rfl (by omega) hu) ?_
    refine M.go rfl ?_
    refine M.op trivial (SOp.ld1e rfl hu rfl rfl rfl) ?_
    refine M.go rfl ?_
    refine M.dec rfl (fun h1 => absurd h1 (by omega)) (fun h1 => ?_)
    · refine M.go rfl ?_
      refine M.use (by first | exact True.intro | exact rfl) (Last_spec L hL) [(0, 0)] rfl rfl rfl (by repeat' (first | exact True.intro | refine ⟨⟨_, _, _, rfl, rfl, rfl, WkO.rfl⟩, ?_⟩ | refine HeapOK.acc rfl rfl ?_)) rfl rfl ?_
      refine M.go rfl ?_
      have hw : IntKind.i64.wrap (L.last + 1) = L.last + 1 := wr64 (by unfold PLog.last; have := hL.ix; omega) (by omega)
      rw [hw]
      refine M.cond rfl (fun h2 => absurd h2 (by omega)) (fun h2 => ?_)
      · refine M.go rfl ?_
        have hw2 : IntKind.i64.wrap (e.ix - 1) = e.ix - 1 := wr64 (by have := hL.ix; omega) (by have := he.ix.2; omega)
        rw [hw2]
        have hi2 : I64 (e.ix - 1) := ⟨by have := hL.ix; omega, by have := he.ix.2; omega⟩
        refine M.use (by first | exact True.intro | exact rfl) (Term_spec L hL (e.ix - 1) hi2) [(0, 0)] rfl rfl rfl (by repeat' (first | exact True.intro | refine ⟨⟨_, _, _, rfl, rfl, rfl, WkO.rfl⟩, ?_⟩ | refine HeapOK.acc rfl rfl ?_)) rfl rfl ?_
        refine M.go rfl ?_
        rw [hw2]
        refine M.use0 trivial (may_spec z c (e :: l) (e.ix - 1) (L.term (e.ix - 1)).1 (by omega) hok hi2) rfl rfl rfl ?_
        refine M.go rfl ?_
        refine M.condB rfl (fun h5 => ?_) (fun _ => ?_)
        · rw [hm] at h5; simp at h5
        · refine M.go rfl ?_
          refine M.regD (MD.go rfl ?_)
          have hw3 : IntKind.i64.wrap (IntKind.i64.wrap (e.ix - L.S.ix) - 1) = e.ix - L.S.ix - 1 := hL.wrap he.ix h3
          rw [hw3]
          have hle : (e.ix - L.S.ix - 1).toNat ≤ (entP L.E).length := by rw [entP_len]; unfold PLog.last at h4; omega
          refine MD.op trivial (SOp.sl rfl rfl ⟨_, _, rfl, by omega, rfl⟩ (Nat.zero_le _) hle) (MD.go rfl ?_)
          have hd : ((entP L.E).drop 0).take ((e.ix - L.S.ix - 1).toNat - 0) = entP (L.E.take (e.ix - L.S.ix - 1).toNat) := by simp [entP]
          rw [hd]
          refine MD.use0 trivial (Clip_spec _ (entP (L.E.take (e.ix - L.S.ix - 1).toNat)) _) rfl rfl rfl (MD.go rfl (MD.nil mixed (Fnl.nodup rfl) (M.go rfl ?_)))
          have hT : (entP (L.E.take (e.ix - L.S.ix - 1).toNat)).length ≤ 10000000000 := by rw [entP_len]; have := hL.len; simp; omega
          refine M.loop (XH.ren [(0, 0)] (put_first L.S z c e l hl hok _ (entP (L.E.take (e.ix - L.S.ix - 1).toNat)) hT _ (fun y0 ey hy => ?_)) rfl (by repeat' (first | exact True.intro | refine ⟨⟨_, _, rfl, rfl, Wk.rfl⟩, ?_⟩ | refine ⟨⟨_, _, accV_ren rfl, rfl, Wk.rfl⟩, ?_⟩ | refine ⟨⟨_, _, accV_ren rfl, rfl, Wk.acc0⟩, ?_⟩ | refine ⟨⟨_, _, rfl, rfl, Wk.uncap⟩, ?_⟩ | refine ⟨⟨_, _, rfl, rfl, Wk.nil⟩, ?_⟩)) (by repeat' (first | exact True.intro | refine ⟨⟨_, _, _, rfl, rfl, rfl, WkO.rfl⟩, ?_⟩ | refine HeapOK.acc rfl rfl ?_)))
          refine M.q (M.goN 2 rfl ?_)
          refine M.accFR (b0 := 0) (o := 4) (b := 1) rfl rfl rfl rfl rfl ?_
          refine M.go rfl ?_
          rw [show L.put (e :: l) = ⟨L.S, L.E.take (e.ix - L.S.ix - 1).toNat ++ (e :: l).map Ent.own, true, none⟩ from rfl]
          have hy2 : y0 :: ey = entP (L.E.take (e.ix - L.S.ix - 1).toNat ++ (e :: l).map Ent.own) := by rw [hy]; simp [entP]
          rw [hy2]
          exact M.ret (M.go rfl (M.done (finQ.ret [(0, 0)] rfl rfl rfl (by first | exact Wk.rfl | exact Wk.uncap | exact Wk.nil | exact Wk.b1 rfl | exact Wk.t2 Wk.rfl (Wk.b1 rfl)) (by repeat' (first | exact True.intro | refine ⟨⟨_, _, _, rfl, rfl, rfl, WkO.rfl⟩, ?_⟩ | refine HeapOK.acc rfl rfl ?_)))))
end Go.Proofs.Yteegdhfekemhmaa

/- delphilaw20.LogCut: entries that are put over others. -/
namespace Go.Proofs.Yteegdhfekemhmaa
open Go.RowKit Sim Go Sym
set_option maxRecDepth 100000
set_option linter.unusedVariables false
set_option linter.unusedSimpArgs false
variable {base : Nat}
def entQ (b t : Int) : Ent := ⟨b, t, 2, true, [], none⟩
def seqE (b t : Int) (k : Nat) : List Ent := (List.range k).map fun (j : Nat) => entQ (b + ((j : Int) + 1)) t
theorem seqE_succ (b t : Int) (k : Nat) : seqE b t (k + 1) = seqE b t k ++ [entQ (b + (k + 1)) t] := by simp [seqE, List.range_succ]
theorem seqE_cons (b t : Int) (k : Nat) : seqE b t (k + 1) = entQ (b + 1) t :: seqE (b + 1) t k := by
  simp only [seqE, List.range_succ_eq_map, List.map_cons, List.map_map]
  refine List.cons_eq_cons.2 ⟨by simp, List.map_congr_left fun j _ => ?_⟩
  simp only [Function.comp, Nat.succ_eq_add_one]
  rw [show b + (((j + 1 : Nat) : Int) + 1) = b + 1 + ((j : Int) + 1) by omega]
theorem seqE_len (b t : Int) (k : Nat) : (seqE b t k).length = k := by simp [seqE]
theorem seqE_may (t : Int) (ht : 1 ≤ t) : ∀ (k : Nat) (b s : Int), s ≤ t → b + k ≤ 9223372036854775806 → mayF b s (seqE b t k) = true
  | 0, _, _, _, _ => rfl
  | k + 1, b, s, hs, hb => by
    have h0 := seqE_may t ht k (b + 1) t (Int.le_refl _) (by omega)
    rw [seqE_cons, mayF]
    have h1 : ¬ b = 9223372036854775807 := by omega
    have h2 : ¬ t < 1 := by omega
    have h3 : ¬ t < s := by omega
    simp [entB, entQ, h1, h2, h3, h0]
theorem seqE_ok (b t : Int) (k : Nat) (hb : 0 ≤ b) (hb2 : b + k ≤ 9000000000000000000) (ht : I64 t) : ∀ e ∈ seqE b t k, e.ok := by
  intro e he
  simp only [seqE, List.mem_map, List.mem_range] at he
  obtain ⟨j, hj, rfl⟩ := he
  exact ⟨⟨by simp [entQ]; omega, by simp [entQ]; omega⟩, ht, ⟨by simp [entQ], by simp [entQ]⟩, ⟨by simp [entQ], by simp [entQ]⟩⟩
theorem seqE_own (b t : Int) (k : Nat) : (seqE b t k).map Ent.own = seqE b t k := by simp [seqE, Function.comp_def, entQ, Ent.own]
noncomputable def lCut : {F : LF // lowerF Try.prog 6 = some F} := ⟨_, rfl⟩
theorem cutA (b n f m : Int) (N : Nat) (hN : n = N) (hn : N ≤ 30) (hb : 0 ≤ b) (hb2 : b ≤ 1099511627776) (Q : QX) (hq : Q (.exit 0) [(10, accV 0 4 (entP (seqE b 2 N))), (0, .c (.p (.int .i64 b))), (1, .c (.p (.int .i64 n))), (2, .c (.p (.int .i64 f))), (3, .c (.p (.int .i64 m))), (11, .c (.p (.tz true 0 [] none)))] ⟨[(0, accO 4 (entP (seqE b 2 N)))], 1⟩) :
    ∀ (rem k : Nat), k + rem = N → XH Try.prog base lCut.1.n 0 (lCut.1.c.lp 0) [(10, accV 0 4 (entP (seqE b 2 k))), (12, .c (.p (.int .i64 (k + 1)))), (0, .c (.p (.int .i64 b))), (1, .c (.p (.int .i64 n))), (2, .c (.p (.int .i64 f))), (3, .c (.p (.int .i64 m))), (11, .c (.p (.tz true 0 [] none)))] ⟨[(0, accO 4 (entP (seqE b 2 k)))], 1⟩ Q := by
  intro rem
  induction rem with
  | zero =>
    intro k hk
    obtain rfl : k = N := by omega
    refine M.round (M.go rfl ?_)
    refine M.cond rfl (fun hc => ?_) (fun hc => ?_)
    · omega
    · refine M.ren [(0, 0)] ?_ trivial rfl (by repeat' (first | exact True.intro | refine ⟨⟨_, _, rfl, rfl, Wk.rfl⟩, ?_⟩ | refine ⟨⟨_, _, accV_ren rfl, rfl, Wk.rfl⟩, ?_⟩ | refine ⟨⟨_, _, accV_ren rfl, rfl, Wk.acc0⟩, ?_⟩ | refine ⟨⟨_, _, rfl, rfl, Wk.uncap⟩, ?_⟩ | refine ⟨⟨_, _, rfl, rfl, Wk.nil⟩, ?_⟩)) (by repeat' (first | exact True.intro | refine ⟨⟨_, _, _, rfl, rfl, rfl, WkO.rfl⟩, ?_⟩ | refine HeapOK.acc rfl rfl ?_)) (e' := [(10, accV 0 4 (entP (seqE b 2 k))), (0, .c (.p (.int .i64 b))), (1, .c (.p (.int .i64 n))), (2, .c (.p (.int .i64 f))), (3, .c (.p (.int .i64 m))), (11, .c (.p (.tz true 0 [] none)))]) (h' := ⟨[(0, accO 4 (entP (seqE b 2 k)))], 1⟩)
      exact M.exit (M.go rfl (M.done hq))
  | succ rem ih =>
    intro k hk
    have ih' := ih (k + 1) (by omega)
    rw [seqE_succ, show entP (seqE b 2 k ++ [entQ (b + (k + 1)) 2]) = entP (seqE b 2 k) ++ [(entQ (b + (k + 1)) 2).pc] by simp [entP]] at ih'
    refine M.round (M.go rfl ?_)
    refine M.cond rfl (fun hc => ?_) (fun hc => ?_)
    · refine M.goN 10 rfl ?_
      have hw : IntKind.i64.wrap (b + ((k : Int) + 1)) = b + ((k : Int) + 1) := wr64 (by omega) (by omega)
      have hw2 : IntKind.i64.wrap ((k : Int) + 1 + 1) = ((k + 1 : Nat) : Int) + 1 := by rw [wr64 (by omega) (by omega)]; omega
      rw [hw]
      refine M.wkO (i := 62) (v' := (entQ (b + ((k : Int) + 1)) 2).v) rfl Wk.rfl ?_
      refine M.go rfl ?_
      refine M.acc trivial rfl rfl rfl (.own rfl rfl) (by simp) (by rw [entP_len, seqE_len]; simp; omega) ?_
      refine M.go rfl ?_
      rw [hw2]
      exact M.again (XH.ren [(0, 2)] ih' rfl (by repeat' (first | exact True.intro | refine ⟨⟨_, _, rfl, rfl, Wk.rfl⟩, ?_⟩ | refine ⟨⟨_, _, accV_ren rfl, rfl, Wk.rfl⟩, ?_⟩ | refine ⟨⟨_, _, accV_ren rfl, rfl, Wk.acc0⟩, ?_⟩ | refine ⟨⟨_, _, rfl, rfl, Wk.uncap⟩, ?_⟩ | refine ⟨⟨_, _, rfl, rfl, Wk.nil⟩, ?_⟩)) (by repeat' (first | exact True.intro | refine ⟨⟨_, _, _, rfl, rfl, rfl, WkO.rfl⟩, ?_⟩ | refine HeapOK.acc rfl rfl ?_)))
    · omega
theorem cutB (b n f m : Int) (Ea : List PC) (N : Nat) (hN : m = N) (hn : N ≤ 20) (hb : 0 ≤ b) (hb2 : b ≤ 1099511627776) (hf : 0 ≤ f) (hf2 : f ≤ 30) (Q : QX) (hq : Q (.exit 2) [(11, accV 0 4 (entP (seqE (b + f) 3 N))), (0, .c (.p (.int .i64 b))), (1, .c (.p (.int .i64 n))), (2, .c (.p (.int .i64 f))), (3, .c (.p (.int .i64 m))), (10, .c (.p (.tz true 4 Ea none)))] ⟨[(0, accO 4 (entP (seqE (b + f) 3 N)))], 1⟩) :
    ∀ (rem k : Nat), k + rem = N → XH Try.prog base lCut.1.n 0 (lCut.1.c.lp 1) [(11, accV 0 4 (entP (seqE (b + f) 3 k))), (13, .c (.p (.int .i64 (k + 1)))), (0, .c (.p (.int .i64 b))), (1, .c (.p (.int .i64 n))), (2, .c (.p (.int .i64 f))), (3, .c (.p (.int .i64 m))), (10, .c (.p (.tz true 4 Ea none)))] ⟨[(0, accO 4 (entP (seqE (b + f) 3 k)))], 1⟩ Q := by
  intro rem
  induction rem with
  | zero =>
    intro k hk
    obtain rfl : k = N := by omega
    refine M.round (M.go rfl ?_)
    refine M.cond rfl (fun hc => ?_) (fun hc => ?_)
    · omega
    · refine M.ren [(0, 0)] ?_ trivial rfl (by repeat' (first | exact True.intro | refine ⟨⟨_, _, rfl, rfl, Wk.rfl⟩, ?_⟩ | refine ⟨⟨_, _, accV_ren rfl, rfl, Wk.rfl⟩, ?_⟩ | refine ⟨⟨_, _, accV_ren rfl, rfl, Wk.acc0⟩, ?_⟩ | refine ⟨⟨_, _, rfl, rfl, Wk.uncap⟩, ?_⟩ | refine ⟨⟨_, _, rfl, rfl, Wk.nil⟩, ?_⟩)) (by repeat' (first | exact True.intro | refine ⟨⟨_, _, _, rfl, rfl, rfl, WkO.rfl⟩, ?_⟩ | refine HeapOK.acc rfl rfl ?_)) (e' := [(11, accV 0 4 (entP (seqE (b + f) 3 k))), (0, .c (.p (.int .i64 b))), (1, .c (.p (.int .i64 n))), (2, .c (.p (.int .i64 f))), (3, .c (.p (.int .i64 m))), (10, .c (.p (.tz true 4 Ea none)))]) (h' := ⟨[(0, accO 4 (entP (seqE (b + f) 3 k)))], 1⟩)
      exact M.exit (M.go rfl (M.done hq))
  | succ rem ih =>
    intro k hk
    have ih' := ih (k + 1) (by omega)
    rw [seqE_succ, show entP (seqE (b + f) 3 k ++ [entQ (b + f + (k + 1)) 3]) = entP (seqE (b + f) 3 k) ++ [(entQ (b + f + (k + 1)) 3).pc] by simp [entP]] at ih'
    refine M.round (M.go rfl ?_)
    refine M.cond rfl (fun hc => ?_) (fun hc => ?_)
    · refine M.goN 12 rfl ?_
      have hw0 : IntKind.i64.wrap (f + ((k : Int) + 1)) = f + ((k : Int) + 1) := wr64 (by omega) (by omega)
      have hw : IntKind.i64.wrap (b + (f + ((k : Int) + 1))) = b + f + ((k : Int) + 1) := by rw [wr64 (by omega) (by omega)]; omega
      have hw2 : IntKind.i64.wrap ((k : Int) + 1 + 1) = ((k + 1 : Nat) : Int) + 1 := by rw [wr64 (by omega) (by omega)]; omega
      rw [hw0, hw]
      refine M.wkO (i := 76) (v' := (entQ (b + f + ((k : Int) + 1)) 3).v) rfl Wk.rfl ?_
      refine M.go rfl ?_
      refine M.acc trivial rfl rfl rfl (.own rfl rfl) (by simp) (by rw [entP_len, seqE_len]; simp; omega) ?_
      refine M.go rfl ?_
      rw [hw2]
      exact M.again (XH.ren [(0, 2)] ih' rfl (by repeat' (first | exact True.intro | refine ⟨⟨_, _, rfl, rfl, Wk.rfl⟩, ?_⟩ | refine ⟨⟨_, _, accV_ren rfl, rfl, Wk.rfl⟩, ?_⟩ | refine ⟨⟨_, _, accV_ren rfl, rfl, Wk.acc0⟩, ?_⟩ | refine ⟨⟨_, _, rfl, rfl, Wk.uncap⟩, ?_⟩ | refine ⟨⟨_, _, rfl, rfl, Wk.nil⟩, ?_⟩)) (by repeat' (first | exact True.intro | refine ⟨⟨_, _, _, rfl, rfl, rfl, WkO.rfl⟩, ?_⟩ | refine HeapOK.acc rfl rfl ?_)))
    · omega
theorem cutT (b n f m : Int) (L : PLog) (hL : L.ok) (hb : 0 ≤ b) (hb2 : b ≤ 1099511627776) (hf : 0 ≤ f) (hf2 : f ≤ 30) (hm0 : 1 ≤ m) (hm : m ≤ 20) (h3 : ∀ i : Int, f < i → i ≤ f + m → L.term (b + i) = (3, true)) (h2 : ∀ i : Int, 1 ≤ i → i ≤ f → L.term (b + i) = (2, true)) (Q : QX) (hq : Q (.exit 4) [(14, .c (.ptr 0 0)), (0, .c (.p (.int .i64 b)))] L.h) :
    ∀ (rem : Nat) (i : Int), 1 ≤ i → i + rem = f + m + 1 → XH Try.prog base lCut.1.n 0 (lCut.1.c.lp 2) [(14, .c (.ptr 0 0)), (15, .c (.p (.int .i64 i))), (0, .c (.p (.int .i64 b))), (2, .c (.p (.int .i64 f))), (3, .c (.p (.int .i64 m)))] L.h Q := by
  have hwf : IntKind.i64.wrap (f + m) = f + m := wr64 (by omega) (by omega)
  intro rem
  induction rem with
  | zero =>
    intro i h1 hi
    refine M.round (M.go rfl ?_)
    rw [hwf]
    refine M.cond rfl (fun hc => ?_) (fun hc => ?_)
    · omega
    · refine M.ren [(0, 0)] ?_ trivial rfl (by repeat' (first | exact True.intro | refine ⟨⟨_, _, rfl, rfl, Wk.rfl⟩, ?_⟩ | refine ⟨⟨_, _, accV_ren rfl, rfl, Wk.rfl⟩, ?_⟩ | refine ⟨⟨_, _, accV_ren rfl, rfl, Wk.acc0⟩, ?_⟩ | refine ⟨⟨_, _, rfl, rfl, Wk.uncap⟩, ?_⟩ | refine ⟨⟨_, _, rfl, rfl, Wk.nil⟩, ?_⟩)) (by repeat' (first | exact True.intro | refine ⟨⟨_, _, _, rfl, rfl, rfl, WkO.rfl⟩, ?_⟩ | refine HeapOK.acc rfl rfl ?_)) (e' := [(14, .c (.ptr 0 0)), (0, .c (.p (.int .i64 b)))]) (h' := L.h)
      exact M.exit (M.go rfl (M.done hq))
  | succ rem ih =>
    intro i h1 hi
    have ih' := ih (i + 1) (by omega) (by omega)
    refine M.round (M.go rfl ?_)
    rw [hwf]
    refine M.cond rfl (fun hc => ?_) (fun hc => ?_)
    · refine M.go rfl ?_
      have hw : IntKind.i64.wrap (b + i) = b + i := wr64 (by omega) (by omega)
      have hw2 : IntKind.i64.wrap (i + 1) = i + 1 := wr64 (by omega) (by omega)
      rw [hw]
      refine M.use (by first | exact True.intro | exact rfl) (Term_spec L hL (b + i) ⟨by omega, by omega⟩) [(0, 0)] rfl rfl rfl (by repeat' (first | exact True.intro | refine ⟨⟨_, _, _, rfl, rfl, rfl, WkO.rfl⟩, ?_⟩ | refine HeapOK.acc rfl rfl ?_)) rfl rfl ?_
      by_cases hfi : f < i
      · rw [h3 i hfi (by omega)]
        refine M.go rfl ?_
        refine M.cond rfl (fun _ => ?_) (fun h => absurd hfi h)
        refine M.go rfl ?_
        refine M.decB rfl (fun h => absurd h (by decide)) (fun _ => ?_)
        refine M.go rfl ?_
        refine M.condB rfl (fun h => absurd h (by decide)) (fun _ => ?_)
        refine M.go rfl ?_
        rw [hw2]
        exact M.again (XH.ren [(0, 0)] ih' rfl (by repeat' (first | exact True.intro | refine ⟨⟨_, _, rfl, rfl, Wk.rfl⟩, ?_⟩ | refine ⟨⟨_, _, accV_ren rfl, rfl, Wk.rfl⟩, ?_⟩ | refine ⟨⟨_, _, accV_ren rfl, rfl, Wk.acc0⟩, ?_⟩ | refine ⟨⟨_, _, rfl, rfl, Wk.uncap⟩, ?_⟩ | refine ⟨⟨_, _, rfl, rfl, Wk.nil⟩, ?_⟩)) (by repeat' (first | exact True.intro | refine ⟨⟨_, _, _, rfl, rfl, rfl, WkO.rfl⟩, ?_⟩ | refine HeapOK.acc rfl rfl ?_)))
      · rw [h2 i h1 (by omega)]
        refine M.go rfl ?_
        refine M.cond rfl (fun h => absurd h hfi) (fun _ => ?_)
        refine M.go rfl ?_
        refine M.decB rfl (fun h => absurd h (by decide)) (fun _ => ?_)
        refine M.go rfl ?_
        refine M.condB rfl (fun h => absurd h (by decide)) (fun _ => ?_)
        refine M.go rfl ?_
        rw [hw2]
        exact M.again (XH.ren [(0, 0)] ih' rfl (by repeat' (first | exact True.intro | refine ⟨⟨_, _, rfl, rfl, Wk.rfl⟩, ?_⟩ | refine ⟨⟨_, _, accV_ren rfl, rfl, Wk.rfl⟩, ?_⟩ | refine ⟨⟨_, _, accV_ren rfl, rfl, Wk.acc0⟩, ?_⟩ | refine ⟨⟨_, _, rfl, rfl, Wk.uncap⟩, ?_⟩ | refine ⟨⟨_, _, rfl, rfl, Wk.nil⟩, ?_⟩)) (by repeat' (first | exact True.intro | refine ⟨⟨_, _, _, rfl, rfl, rfl, WkO.rfl⟩, ?_⟩ | refine HeapOK.acc rfl rfl ?_)))
    · omega
end Go.Proofs.Yteegdhfekemhmaa

/- delphilaw20.LogCut: its walk. -/
namespace Go.Proofs.Yteegdhfekemhmaa
open Go.RowKit Sim Go Sym
set_option maxRecDepth 100000
set_option linter.unusedVariables false
set_option linter.unusedSimpArgs false
variable {base : Nat}
theorem begun_spec : CallS Try.prog base 30 [] ⟨[], 0⟩ (.c (.p (.bool true))) ⟨[], 0⟩ := CallS.closed (m := 2000) mixed noNG (by kernel_rfl)
/-- The snapshot that it begins with. -/
def cutS (b : Int) : Snp := ⟨b, 1, true, [], none, true, [], none⟩
theorem cutS_ok (b : Int) (hb : 0 ≤ b) (hb2 : b ≤ 1099511627776) : (cutS b).ok := ⟨⟨by simp [cutS]; omega, by simp [cutS]; omega⟩, ⟨by simp [cutS], by simp [cutS]⟩, ⟨by simp [cutS], by simp [cutS]⟩, ⟨by simp [cutS], by simp [cutS]⟩⟩
def cutL (b : Int) (n : Nat) : PLog := ⟨cutS b, seqE b 2 n, true, none⟩
def cutL2 (b : Int) (f m : Nat) : PLog := ⟨cutS b, seqE b 2 f ++ seqE (b + f) 3 m, true, none⟩
theorem cutL_ok (b : Int) (n : Nat) (hb : 0 ≤ b) (hb2 : b ≤ 1099511627776) (hn : n ≤ 30) : (cutL b n).ok := ⟨cutS_ok b hb hb2, hb, by simp [PLog.last, cutL, cutS, seqE_len]; omega, by simp [cutL, seqE_len]; omega, seqE_ok b 2 n hb (by omega) ⟨by omega, by omega⟩⟩
theorem cutL2_ok (b : Int) (f m : Nat) (hb : 0 ≤ b) (hb2 : b ≤ 1099511627776) (hf : f ≤ 30) (hm : m ≤ 20) : (cutL2 b f m).ok := ⟨cutS_ok b hb hb2, hb, by simp [PLog.last, cutL2, cutS, seqE_len]; omega, by simp [cutL2, seqE_len]; omega, by
  intro e he
  simp only [cutL2, List.mem_append] at he
  rcases he with he | he
  · exact seqE_ok b 2 f hb (by omega) ⟨by omega, by omega⟩ e he
  · exact seqE_ok (b + f) 3 m (by omega) (by omega) ⟨by omega, by omega⟩ e he⟩
theorem cutL2_last (b : Int) (f m : Nat) : (cutL2 b f m).last = b + (f + m) := by simp [PLog.last, cutL2, cutS, seqE_len]
theorem cut_new (b : Int) (n : Nat) (hb : 0 ≤ b) (hb2 : b ≤ 1099511627776) (hn : n ≤ 30) : newOk (cutS b) (seqE b 2 n) = true := by
  have h1 : ¬ b < 0 := by omega
  simp [newOk, cutS, h1, seqE_may 2 (by omega) n b 1 (by omega) (by omega)]
theorem seqE_get (b t : Int) (k j : Nat) (h : j < k) : (seqE b t k)[j]? = some (entQ (b + (j + 1)) t) := by simp [seqE, h]
theorem cut_term2 (b : Int) (f m : Nat) (i : Int) (h1 : 1 ≤ i) (h2 : i ≤ f) : (cutL2 b f m).term (b + i) = (2, true) := by
  have hl : (cutL2 b f m).last = b + (f + m) := cutL2_last b f m
  have h3 : (cutL2 b f m).S.ix = b := rfl
  have h4 : (b + i - b - 1).toNat < f := by omega
  rw [PLog.term, if_neg (by rw [h3]; omega), if_neg (by rw [h3, hl]; omega), PLog.at', h3]
  have : (seqE b 2 f ++ seqE (b + f) 3 m)[(b + i - b - 1).toNat]? = some (entQ (b + (((b + i - b - 1).toNat : Nat) + 1)) 2) := by rw [List.getElem?_append_left (by rw [seqE_len]; exact h4), seqE_get b 2 f _ h4]
  rw [List.getD_eq_getElem?_getD, show (cutL2 b f m).E = seqE b 2 f ++ seqE (b + f) 3 m from rfl, this]
  rfl
theorem cut_term3 (b : Int) (f m : Nat) (i : Int) (h1 : f < i) (h2 : i ≤ f + m) : (cutL2 b f m).term (b + i) = (3, true) := by
  have hl : (cutL2 b f m).last = b + (f + m) := cutL2_last b f m
  have h3 : (cutL2 b f m).S.ix = b := rfl
  rw [PLog.term, if_neg (by rw [h3]; omega), if_neg (by rw [h3, hl]; omega), PLog.at', h3]
  have h5 : (b + i - b - 1).toNat - f < m := by omega
  have : ∃ x, (seqE b 2 f ++ seqE (b + f) 3 m)[(b + i - b - 1).toNat]? = some (entQ x 3) := by rw [List.getElem?_append_right (by rw [seqE_len]; omega), seqE_len, seqE_get _ 3 m _ h5]; exact ⟨_, rfl⟩
  obtain ⟨x, hx⟩ := this
  rw [List.getD_eq_getElem?_getD, show (cutL2 b f m).E = seqE b 2 f ++ seqE (b + f) 3 m from rfl, hx]
  rfl
theorem cut_put (b : Int) (n f m : Nat) (hb : 0 ≤ b) (hb2 : b ≤ 1099511627776) (hn : n ≤ 30) (hf : f ≤ n) (hm : m + 1 ≤ 20) : (cutL b n).putOk (entQ (b + f + 1) 3 :: seqE (b + f + 1) 3 m) = true := by
  have hl : (cutL b n).last = b + n := by simp [PLog.last, cutL, cutS, seqE_len]
  have h3 : (cutL b n).S.ix = b := rfl
  have ht : ((cutL b n).term (b + f + 1 - 1)).1 ≤ 3 := by
    rw [PLog.term]
    split
    · exact (by decide : (1 : Int) ≤ 3)
    · rw [h3, hl, if_neg (by omega), PLog.at', h3]
      have h4 : (b + f + 1 - 1 - b - 1).toNat < n := by omega
      have : (seqE b 2 n)[(b + f + 1 - 1 - b - 1).toNat]? = some (entQ (b + (((b + f + 1 - 1 - b - 1).toNat : Nat) + 1)) 2) := seqE_get b 2 n _ h4
      rw [List.getD_eq_getElem?_getD, show (cutL b n).E = seqE b 2 n from rfl, this]
      exact (by decide : (2 : Int) ≤ 3)
  have hm2 := seqE_may 3 (by omega) (m + 1) (b + f) ((cutL b n).term (b + f + 1 - 1)).1 ht (by omega)
  rw [seqE_cons, show b + f = b + f + 1 - 1 by omega] at hm2
  rw [PLog.putOk, h3, hl, show (entQ (b + f + 1) 3).ix = b + f + 1 from rfl]
  rw [show b + (f : Int) + 1 - 1 + 1 = b + f + 1 by omega] at hm2
  rw [hm2]
  simp
  omega
theorem cut_put_eq (b : Int) (n f m : Nat) (hf : f ≤ n) : (cutL b n).put (entQ (b + f + 1) 3 :: seqE (b + f + 1) 3 m) = cutL2 b f (m + 1) := by
  have h1 : (b + (f : Int) + 1 - b - 1).toNat = f := by omega
  have h2 : (seqE b 2 n).take f = seqE b 2 f := by simp [seqE, ← List.map_take, List.take_range, Nat.min_eq_left hf]
  rw [← seqE_cons]
  simp only [PLog.put, cutL, cutL2, seqE_own]
  rw [show ((seqE (b + f) 3 (m + 1)).headD default).ix = b + f + 1 by rw [seqE_cons]; rfl, show (cutS b).ix = b from rfl, h1, h2]
theorem LogCut_spec (b n f m : Int) : CallS Try.prog base 6 [.c (.p (.int .i64 b)), .c (.p (.int .i64 n)), .c (.p (.int .i64 f)), .c (.p (.int .i64 m))] ⟨[], 0⟩ (.c (.p (.bool true))) ⟨[], 0⟩ := by
  refine CallS.of noNG lCut.2 rfl (M.start (M.go rfl ?_))
  refine M.use0 trivial begun_spec rfl rfl rfl ?_
  refine M.go rfl ?_
  refine M.dec rfl (fun h => ?_) (fun h1 => ?_)
  · refine M.go rfl ?_
    exact M.ret (M.go rfl (M.done (finQ.ret [] rfl rfl rfl (by first | exact Wk.rfl | exact Wk.uncap | exact Wk.nil | exact Wk.b1 rfl | exact Wk.t2 Wk.rfl (Wk.b1 rfl)) (by repeat' (first | exact True.intro | refine ⟨⟨_, _, _, rfl, rfl, rfl, WkO.rfl⟩, ?_⟩ | refine HeapOK.acc rfl rfl ?_)))))
  refine M.go rfl ?_
  refine M.dec rfl (fun h => ?_) (fun h2 => ?_)
  · refine M.go rfl ?_
    exact M.ret (M.go rfl (M.done (finQ.ret [] rfl rfl rfl (by first | exact Wk.rfl | exact Wk.uncap | exact Wk.nil | exact Wk.b1 rfl | exact Wk.t2 Wk.rfl (Wk.b1 rfl)) (by repeat' (first | exact True.intro | refine ⟨⟨_, _, _, rfl, rfl, rfl, WkO.rfl⟩, ?_⟩ | refine HeapOK.acc rfl rfl ?_)))))
  refine M.go rfl ?_
  refine M.dec rfl (fun h => ?_) (fun h3 => ?_)
  · refine M.go rfl ?_
    exact M.ret (M.go rfl (M.done (finQ.ret [] rfl rfl rfl (by first | exact Wk.rfl | exact Wk.uncap | exact Wk.nil | exact Wk.b1 rfl | exact Wk.t2 Wk.rfl (Wk.b1 rfl)) (by repeat' (first | exact True.intro | refine ⟨⟨_, _, _, rfl, rfl, rfl, WkO.rfl⟩, ?_⟩ | refine HeapOK.acc rfl rfl ?_)))))
  refine M.go rfl ?_
  refine M.dec rfl (fun h => ?_) (fun h4 => ?_)
  · refine M.go rfl ?_
    exact M.ret (M.go rfl (M.done (finQ.ret [] rfl rfl rfl (by first | exact Wk.rfl | exact Wk.uncap | exact Wk.nil | exact Wk.b1 rfl | exact Wk.t2 Wk.rfl (Wk.b1 rfl)) (by repeat' (first | exact True.intro | refine ⟨⟨_, _, _, rfl, rfl, rfl, WkO.rfl⟩, ?_⟩ | refine HeapOK.acc rfl rfl ?_)))))
  refine M.go rfl ?_
  refine M.dec rfl (fun h => ?_) (fun h5 => ?_)
  · refine M.go rfl ?_
    exact M.ret (M.go rfl (M.done (finQ.ret [] rfl rfl rfl (by first | exact Wk.rfl | exact Wk.uncap | exact Wk.nil | exact Wk.b1 rfl | exact Wk.t2 Wk.rfl (Wk.b1 rfl)) (by repeat' (first | exact True.intro | refine ⟨⟨_, _, _, rfl, rfl, rfl, WkO.rfl⟩, ?_⟩ | refine HeapOK.acc rfl rfl ?_)))))
  refine M.go rfl ?_
  refine M.dec rfl (fun h => ?_) (fun h6 => ?_)
  · refine M.go rfl ?_
    exact M.ret (M.go rfl (M.done (finQ.ret [] rfl rfl rfl (by first | exact Wk.rfl | exact Wk.uncap | exact Wk.nil | exact Wk.b1 rfl | exact Wk.t2 Wk.rfl (Wk.b1 rfl)) (by repeat' (first | exact True.intro | refine ⟨⟨_, _, _, rfl, rfl, rfl, WkO.rfl⟩, ?_⟩ | refine HeapOK.acc rfl rfl ?_)))))
  refine M.go rfl ?_
  refine M.dec rfl (fun h => ?_) (fun h7 => ?_)
  · refine M.go rfl ?_
    exact M.ret (M.go rfl (M.done (finQ.ret [] rfl rfl rfl (by first | exact Wk.rfl | exact Wk.uncap | exact Wk.nil | exact Wk.b1 rfl | exact Wk.t2 Wk.rfl (Wk.b1 rfl)) (by repeat' (first | exact True.intro | refine ⟨⟨_, _, _, rfl, rfl, rfl, WkO.rfl⟩, ?_⟩ | refine HeapOK.acc rfl rfl ?_)))))
  refine M.go rfl ?_
  refine M.cond rfl (fun h => ?_) (fun h8 => ?_)
  · refine M.go rfl ?_
    exact M.ret (M.go rfl (M.done (finQ.ret [] rfl rfl rfl (by first | exact Wk.rfl | exact Wk.uncap | exact Wk.nil | exact Wk.b1 rfl | exact Wk.t2 Wk.rfl (Wk.b1 rfl)) (by repeat' (first | exact True.intro | refine ⟨⟨_, _, _, rfl, rfl, rfl, WkO.rfl⟩, ?_⟩ | refine HeapOK.acc rfl rfl ?_)))))
  refine M.go rfl ?_
  obtain ⟨N, hN⟩ : ∃ N : Nat, n = N := ⟨n.toNat, by omega⟩
  obtain ⟨F, hF⟩ : ∃ F : Nat, f = F := ⟨f.toNat, by omega⟩
  obtain ⟨M', hM⟩ : ∃ M' : Nat, m = (M' + 1 : Nat) := ⟨m.toNat - 1, by omega⟩
  subst hN hF hM
  refine M.loop (XH.ren [(0, 0)] (cutA b N F (M' + 1 : Nat) N rfl (by omega) (by omega) (by omega) _ ?_ N 0 (by omega)) rfl (by repeat' (first | exact True.intro | refine ⟨⟨_, _, rfl, rfl, Wk.rfl⟩, ?_⟩ | refine ⟨⟨_, _, accV_ren rfl, rfl, Wk.rfl⟩, ?_⟩ | refine ⟨⟨_, _, accV_ren rfl, rfl, Wk.acc0⟩, ?_⟩ | refine ⟨⟨_, _, rfl, rfl, Wk.uncap⟩, ?_⟩ | refine ⟨⟨_, _, rfl, rfl, Wk.nil⟩, ?_⟩)) (by repeat' (first | exact True.intro | refine ⟨⟨_, _, _, rfl, rfl, rfl, WkO.rfl⟩, ?_⟩ | refine HeapOK.acc rfl rfl ?_)))
  refine M.q (M.goN 2 rfl ?_)
  refine M.accF (i := 10) rfl rfl ?_
  refine M.go rfl ?_
  refine M.ren [] ?_ trivial rfl (by repeat' (first | exact True.intro | refine ⟨⟨_, _, rfl, rfl, Wk.rfl⟩, ?_⟩ | refine ⟨⟨_, _, accV_ren rfl, rfl, Wk.rfl⟩, ?_⟩ | refine ⟨⟨_, _, accV_ren rfl, rfl, Wk.acc0⟩, ?_⟩ | refine ⟨⟨_, _, rfl, rfl, Wk.uncap⟩, ?_⟩ | refine ⟨⟨_, _, rfl, rfl, Wk.nil⟩, ?_⟩)) (by repeat' (first | exact True.intro | refine ⟨⟨_, _, _, rfl, rfl, rfl, WkO.rfl⟩, ?_⟩ | refine HeapOK.acc rfl rfl ?_)) (e' := [(13, .c (.p (.int .i64 1))), (0, .c (.p (.int .i64 b))), (1, .c (.p (.int .i64 N))), (2, .c (.p (.int .i64 F))), (3, .c (.p (.int .i64 (M' + 1 : Nat)))), (10, .c (.p (.tz true 4 (entP (seqE b 2 N)) none))), (11, .c (.p (.tz true 0 [] none)))]) (h' := ⟨[], 0⟩)
  refine M.loop (XH.ren [(0, 0)] (cutB b N F (M' + 1 : Nat) (entP (seqE b 2 N)) (M' + 1) rfl (by omega) (by omega) (by omega) (by omega) (by omega) _ ?_ (M' + 1) 0 (by omega)) rfl (by repeat' (first | exact True.intro | refine ⟨⟨_, _, rfl, rfl, Wk.rfl⟩, ?_⟩ | refine ⟨⟨_, _, accV_ren rfl, rfl, Wk.rfl⟩, ?_⟩ | refine ⟨⟨_, _, accV_ren rfl, rfl, Wk.acc0⟩, ?_⟩ | refine ⟨⟨_, _, rfl, rfl, Wk.uncap⟩, ?_⟩ | refine ⟨⟨_, _, rfl, rfl, Wk.nil⟩, ?_⟩)) (by repeat' (first | exact True.intro | refine ⟨⟨_, _, _, rfl, rfl, rfl, WkO.rfl⟩, ?_⟩ | refine HeapOK.acc rfl rfl ?_)))
  refine M.q (M.goN 2 rfl ?_)
  refine M.accF (i := 11) rfl rfl ?_
  refine M.ren [] ?_ trivial rfl (by repeat' (first | exact True.intro | refine ⟨⟨_, _, rfl, rfl, Wk.rfl⟩, ?_⟩ | refine ⟨⟨_, _, accV_ren rfl, rfl, Wk.rfl⟩, ?_⟩ | refine ⟨⟨_, _, accV_ren rfl, rfl, Wk.acc0⟩, ?_⟩ | refine ⟨⟨_, _, rfl, rfl, Wk.uncap⟩, ?_⟩ | refine ⟨⟨_, _, rfl, rfl, Wk.nil⟩, ?_⟩)) (by repeat' (first | exact True.intro | refine ⟨⟨_, _, _, rfl, rfl, rfl, WkO.rfl⟩, ?_⟩ | refine HeapOK.acc rfl rfl ?_)) (e' := [(0, .c (.p (.int .i64 b))), (1, .c (.p (.int .i64 N))), (2, .c (.p (.int .i64 F))), (3, .c (.p (.int .i64 (M' + 1 : Nat)))), (10, .c (.p (.tz true 4 (entP (seqE b 2 N)) none))), (11, .c (.p (.tz true 4 (entP (seqE (b + F) 3 (M' + 1))) none)))]) (h' := ⟨[], 0⟩)
  refine M.go rfl ?_
  refine M.wkO (i := 80) (v' := (cutS b).v) rfl Wk.rfl ?_
  have hb : 0 ≤ b := by omega
  have hb2 : b ≤ 1099511627776 := by omega
  refine M.use trivial (New_yes (cutS b) (cutS_ok b hb hb2) true none (seqE b 2 N) (by rw [seqE_len]; omega) (seqE_ok b 2 N hb (by omega) ⟨by omega, by omega⟩) (cut_new b N hb hb2 (by omega))) [] rfl rfl rfl (by repeat' (first | exact True.intro | refine ⟨⟨_, _, _, rfl, rfl, rfl, WkO.rfl⟩, ?_⟩ | refine HeapOK.acc rfl rfl ?_)) rfl rfl ?_
  refine M.go rfl ?_
  rw [seqE_own]
  rw [seqE_cons (b + F)]
  have hL1 := cutL_ok b N hb hb2 (by omega)
  have hL2 := cutL2_ok b F (M' + 1) hb hb2 (by omega) (by omega)
  have hok : ∀ e ∈ entQ (b + F + 1) 3 :: seqE (b + F + 1) 3 M', e.ok := by rw [← seqE_cons]; exact seqE_ok (b + F) 3 (M' + 1) (by omega) (by omega) ⟨by omega, by omega⟩
  have hl1 : (cutL b N).last = b + N := by simp [PLog.last, cutL, cutS, seqE_len]
  have hput := Put_yes (base := base) (cutL b N) hL1 (by omega) true none (entQ (b + F + 1) 3) (seqE (b + F + 1) 3 M') (by simp [seqE_len]; omega) hok (cut_put b N F M' hb hb2 (by omega) (by omega) (by omega))
  rw [cut_put_eq b N F M' (by omega)] at hput
  refine M.use rfl hput [(0, 0)] rfl rfl rfl (by repeat' (first | exact True.intro | refine ⟨⟨_, _, _, rfl, rfl, rfl, WkO.rfl⟩, ?_⟩ | refine HeapOK.acc rfl rfl ?_)) rfl rfl ?_
  refine M.go rfl ?_
  refine M.decB rfl (fun h => absurd h (by decide)) (fun _ => ?_)
  refine M.go rfl ?_
  refine M.use (by first | exact True.intro | exact rfl) (Last_spec _ hL2) [(0, 0)] rfl rfl rfl (by repeat' (first | exact True.intro | refine ⟨⟨_, _, _, rfl, rfl, rfl, WkO.rfl⟩, ?_⟩ | refine HeapOK.acc rfl rfl ?_)) rfl rfl ?_
  refine M.go rfl ?_
  have hwl : IntKind.i64.wrap ((F : Int) + ((M' + 1 : Nat) : Int)) = F + ((M' + 1 : Nat) : Int) := wr64 (by omega) (by omega)
  have hwl2 : IntKind.i64.wrap (b + ((F : Int) + ((M' + 1 : Nat) : Int))) = b + (F + ((M' + 1 : Nat) : Int)) := wr64 (by omega) (by omega)
  have hl2 := cutL2_last b F (M' + 1)
  rw [hwl, hwl2]
  refine M.decN rfl (fun h => absurd hl2 h) (fun _ => ?_)
  refine M.go rfl ?_
  refine M.use (by first | exact True.intro | exact rfl) (Base_spec _) [(0, 0)] rfl rfl rfl (by repeat' (first | exact True.intro | refine ⟨⟨_, _, _, rfl, rfl, rfl, WkO.rfl⟩, ?_⟩ | refine HeapOK.acc rfl rfl ?_)) rfl rfl ?_
  refine M.go rfl ?_
  refine M.condN rfl (fun h => absurd rfl h) (fun _ => ?_)
  refine M.go rfl ?_
  refine M.loop (XH.ren [(0, 0)] (cutT b N F (M' + 1 : Nat) (cutL2 b F (M' + 1)) hL2 hb hb2 (by omega) (by omega) (by omega) (by omega) (fun i g1 g2 => cut_term3 b F (M' + 1) i g1 g2) (fun i g1 g2 => cut_term2 b F (M' + 1) i g1 g2) _ ?_ (F + M' + 1) 1 (by omega) (by omega)) rfl (by repeat' (first | exact True.intro | refine ⟨⟨_, _, rfl, rfl, Wk.rfl⟩, ?_⟩ | refine ⟨⟨_, _, accV_ren rfl, rfl, Wk.rfl⟩, ?_⟩ | refine ⟨⟨_, _, accV_ren rfl, rfl, Wk.acc0⟩, ?_⟩ | refine ⟨⟨_, _, rfl, rfl, Wk.uncap⟩, ?_⟩ | refine ⟨⟨_, _, rfl, rfl, Wk.nil⟩, ?_⟩)) (by repeat' (first | exact True.intro | refine ⟨⟨_, _, _, rfl, rfl, rfl, WkO.rfl⟩, ?_⟩ | refine HeapOK.acc rfl rfl ?_)))
  refine M.q (M.goN 7 rfl ?_)
  refine M.wkO (i := 134) (v' := (entQ b 3).v) rfl Wk.rfl ?_
  refine M.goN 1 rfl ?_
  refine M.freezeO (i := 135) rfl rfl rfl ?_
  have hlt : (cutL2 b F (M' + 1)).last < 9223372036854775807 := by rw [hl2]; omega
  have hix : (cutL2 b F (M' + 1)).S.ix = b := rfl
  refine M.use (by first | exact True.intro | exact rfl) (Put_no (cutL2 b F (M' + 1)) hL2 hlt false (some 1) (entQ b 3) [] (by simp) (by intro e he; obtain rfl := List.mem_singleton.1 he; exact ⟨⟨by show _ ≤ b; omega, by show b ≤ _; omega⟩, ⟨by simp [entQ], by simp [entQ]⟩, ⟨by simp [entQ], by simp [entQ]⟩, ⟨by simp [entQ], by simp [entQ]⟩⟩) (by rw [PLog.putOk, hix, show (entQ b 3).ix = b from rfl]; simp)) [(0, 0)] rfl rfl rfl (by repeat' (first | exact True.intro | refine ⟨⟨_, _, _, rfl, rfl, rfl, WkO.rfl⟩, ?_⟩ | refine HeapOK.acc rfl rfl ?_)) rfl rfl ?_
  refine M.go rfl ?_
  refine M.decB rfl (fun _ => ?_) (fun h => absurd h (by decide))
  obtain ⟨y, hy⟩ : ∃ y : Int, y = (cutL2 b F (M' + 1)).last := ⟨_, rfl⟩
  have hy2 : y = b + (F + ((M' + 1 : Nat) : Int)) := hy.trans hl2
  have hw1 : IntKind.i64.wrap (y + 1) = y + 1 := wr64 (by omega) (by omega)
  have hw2 : IntKind.i64.wrap (y + 2) = y + 2 := wr64 (by omega) (by omega)
  have hlast := Last_spec (base := base) _ hL2
  rw [← hy] at hlast
  rw [← hy] at hlt
  refine M.go rfl ?_
  refine M.use (by first | exact True.intro | exact rfl) (hlast) [(0, 0)] rfl rfl rfl (by repeat' (first | exact True.intro | refine ⟨⟨_, _, _, rfl, rfl, rfl, WkO.rfl⟩, ?_⟩ | refine HeapOK.acc rfl rfl ?_)) rfl rfl ?_
  refine M.goN 2 rfl ?_
  rw [hw2]
  refine M.wkO (i := 143) (v' := (entQ (y + 2) 3).v) rfl Wk.rfl ?_
  refine M.goN 1 rfl ?_
  refine M.freezeO (i := 144) rfl rfl rfl ?_
  have hn1 : (cutL2 b F (M' + 1)).putOk [entQ (y + 2) 3] = false := by
    have g : ¬ y + 2 ≤ y + 1 := by omega
    rw [PLog.putOk, ← hy, show (entQ (y + 2) 3).ix = y + 2 from rfl, decide_eq_false g]; simp
  refine M.use (by first | exact True.intro | exact rfl) (Put_no (cutL2 b F (M' + 1)) hL2 (by rw [← hy]; exact hlt) false (some 1) (entQ (y + 2) 3) [] (by simp) (by intro e he; obtain rfl := List.mem_singleton.1 he; exact ⟨⟨by show _ ≤ y + 2; omega, by show y + 2 ≤ _; omega⟩, ⟨by simp [entQ], by simp [entQ]⟩, ⟨by simp [entQ], by simp [entQ]⟩, ⟨by simp [entQ], by simp [entQ]⟩⟩) hn1) [(0, 0)] rfl rfl rfl (by repeat' (first | exact True.intro | refine ⟨⟨_, _, _, rfl, rfl, rfl, WkO.rfl⟩, ?_⟩ | refine HeapOK.acc rfl rfl ?_)) rfl rfl ?_
  refine M.go rfl ?_
  refine M.decB rfl (fun _ => ?_) (fun h => absurd h (by decide))
  refine M.go rfl ?_
  refine M.use (by first | exact True.intro | exact rfl) (hlast) [(0, 0)] rfl rfl rfl (by repeat' (first | exact True.intro | refine ⟨⟨_, _, _, rfl, rfl, rfl, WkO.rfl⟩, ?_⟩ | refine HeapOK.acc rfl rfl ?_)) rfl rfl ?_
  refine M.goN 2 rfl ?_
  rw [hw1]
  refine M.wkO (i := 153) (v' := (entQ (y + 1) 2).v) rfl Wk.rfl ?_
  refine M.goN 1 rfl ?_
  refine M.freezeO (i := 154) rfl rfl rfl ?_
  have hn2 : (cutL2 b F (M' + 1)).putOk [entQ (y + 1) 2] = false := by
    have g : (cutL2 b F (M' + 1)).term (y + 1 - 1) = (3, true) := by
      rw [show y + 1 - 1 = b + (F + ((M' + 1 : Nat) : Int)) by omega]; exact cut_term3 b F (M' + 1) _ (by omega) (by omega)
    rw [PLog.putOk, show (entQ (y + 1) 2).ix = y + 1 from rfl, g, mayF, entB, show (entQ (y + 1) 2).tm = 2 from rfl, decide_eq_true (show (2 : Int) < 3 by decide)]; simp
  refine M.use (by first | exact True.intro | exact rfl) (Put_no (cutL2 b F (M' + 1)) hL2 (by rw [← hy]; exact hlt) false (some 1) (entQ (y + 1) 2) [] (by simp) (by intro e he; obtain rfl := List.mem_singleton.1 he; exact ⟨⟨by show _ ≤ y + 1; omega, by show y + 1 ≤ _; omega⟩, ⟨by simp [entQ], by simp [entQ]⟩, ⟨by simp [entQ], by simp [entQ]⟩, ⟨by simp [entQ], by simp [entQ]⟩⟩) hn2) [(0, 0)] rfl rfl rfl (by repeat' (first | exact True.intro | refine ⟨⟨_, _, _, rfl, rfl, rfl, WkO.rfl⟩, ?_⟩ | refine HeapOK.acc rfl rfl ?_)) rfl rfl ?_
  refine M.go rfl ?_
  exact M.ret (M.go rfl (M.done (finQ.ret [] rfl rfl rfl (by first | exact Wk.rfl | exact Wk.uncap | exact Wk.nil | exact Wk.b1 rfl | exact Wk.t2 Wk.rfl (Wk.b1 rfl)) (by repeat' (first | exact True.intro | refine ⟨⟨_, _, _, rfl, rfl, rfl, WkO.rfl⟩, ?_⟩ | refine HeapOK.acc rfl rfl ?_)))))
theorem logCut_calls (w : World) (b n f m : Int) : Calls Try.prog 6 #[.int .i64 b, .int .i64 n, .int .i64 f, .int .i64 m] w fun e w' => e = .returned (.bool true) ∧ Below w.heap.size w w' :=
  CallS.law (args' := [.int .i64 b, .int .i64 n, .int .i64 f, .int .i64 m]) (LogCut_spec b n f m) ⟨rfl, rfl, rfl, rfl, trivial⟩
#print axioms logCut_calls
end Go.Proofs.Yteegdhfekemhmaa

/- delphiref22.EqInts; delphilaw20.LogConf: its plain law. -/
namespace Go.Proofs.Yteegdhfekemhmaa
open Go.RowKit Sim Go Sym
set_option maxRecDepth 100000
set_option linter.unusedVariables false
set_option linter.unusedSimpArgs false
variable {base : Nat}
noncomputable def lEqi : {F : LF // lowerF Try.prog 32 = some F} := ⟨_, rfl⟩
theorem eqi_loop (za zb : Bool) (ca cb : Option Nat) (a b : List Int) (hl : a.length ≤ 100000000000) (Q : QX) :
    ∀ (ra rb pa pb : List Int), a = pa ++ ra → b = pb ++ rb → pa.length = pb.length → ra.length = rb.length → (ra = rb → Q (.exit 0) [] ⟨[], 0⟩) → (¬ ra = rb → Q .ret [(4, .c (.p (.bool false)))] ⟨[], 0⟩) →
      XH Try.prog base lEqi.1.n 0 (lEqi.1.c.lp 0) [(0, .c (.p (.tz za 1 (inP a) ca))), (1, .c (.p (.tz zb 1 (inP b) cb))), (5, .c (.p (.int .i64 pa.length)))] ⟨[], 0⟩ Q := by
  intro ra
  induction ra with
  | nil =>
    intro rb pa pb h1 h2 h3 h4 hq hr
    refine M.round (M.go rfl ?_)
    have h5 : (inP a).length = pa.length := by rw [h1, inP_len]; simp
    refine M.cond rfl (fun hc => ?_) (fun hc => ?_)
    · rw [h5] at hc; omega
    · refine M.ren [] ?_ trivial rfl (by repeat' (first | exact True.intro | refine ⟨⟨_, _, rfl, rfl, Wk.rfl⟩, ?_⟩ | refine ⟨⟨_, _, accV_ren rfl, rfl, Wk.rfl⟩, ?_⟩ | refine ⟨⟨_, _, accV_ren rfl, rfl, Wk.acc0⟩, ?_⟩ | refine ⟨⟨_, _, rfl, rfl, Wk.uncap⟩, ?_⟩ | refine ⟨⟨_, _, rfl, rfl, Wk.nil⟩, ?_⟩)) (by repeat' (first | exact True.intro | refine ⟨⟨_, _, _, rfl, rfl, rfl, WkO.rfl⟩, ?_⟩ | refine HeapOK.acc rfl rfl ?_)) (e' := []) (h' := ⟨[], 0⟩)
      exact M.exit (M.go rfl (M.done (hq (by cases rb <;> simp_all))))
  | cons x ra ih =>
    intro rb pa pb h1 h2 h3 h4 hq hr
    cases rb with
    | nil => simp at h4
    | cons y rb =>
      refine M.round (M.go rfl ?_)
      have h5 : (inP a).length = pa.length + (ra.length + 1) := by rw [h1, inP_len]; simp
      have hw : IntKind.i64.wrap ((pa.length : Int) + 1) = ((pa ++ [x]).length : Int) := by rw [inP_len] at h5; rw [wr64 (by omega) (by omega)]; simp
      have hu : (inP a)[((pa.length : Int)).toNat]? = some (.int .i64 x) := by rw [h1]; exact at_app _ _ _ _
      have hv : (inP b)[((pa.length : Int)).toNat]? = some (.int .i64 y) := by rw [h2, h3]; exact at_app _ _ _ _
      refine M.cond rfl (fun hc => ?_) (fun hc => ?_)
      · refine M.go rfl (M.regD (MD.go rfl ?_))
        refine MD.op trivial (SOp.ia rfl rfl (by omega) hu) (MD.go rfl ?_)
        refine MD.op trivial (SOp.ld1e rfl hu rfl rfl rfl) (MD.go rfl ?_)
        refine MD.op trivial (SOp.ia rfl rfl (by omega) hv) (MD.go rfl ?_)
        refine MD.op trivial (SOp.ld1e rfl hv rfl rfl rfl) (MD.go rfl (MD.nil mixed (Fnl.nodup rfl) (M.go rfl ?_)))
        refine M.condN rfl (fun hxy => ?_) (fun hxy => ?_)
        · refine M.go rfl ?_
          refine M.ren [] ?_ trivial rfl (by repeat' (first | exact True.intro | refine ⟨⟨_, _, rfl, rfl, Wk.rfl⟩, ?_⟩ | refine ⟨⟨_, _, accV_ren rfl, rfl, Wk.rfl⟩, ?_⟩ | refine ⟨⟨_, _, accV_ren rfl, rfl, Wk.acc0⟩, ?_⟩ | refine ⟨⟨_, _, rfl, rfl, Wk.uncap⟩, ?_⟩ | refine ⟨⟨_, _, rfl, rfl, Wk.nil⟩, ?_⟩)) (by repeat' (first | exact True.intro | refine ⟨⟨_, _, _, rfl, rfl, rfl, WkO.rfl⟩, ?_⟩ | refine HeapOK.acc rfl rfl ?_)) (e' := [(4, .c (.p (.bool false)))]) (h' := ⟨[], 0⟩)
          exact M.ret (M.go rfl (M.done (hr (fun h => hxy (by injection h)))))
        · refine M.go rfl ?_
          rw [hw]
          subst hxy
          refine M.again (XH.ren [] (ih rb (pa ++ [x]) (pb ++ [x]) (by rw [h1]; simp) (by rw [h2]; simp) (by simp [h3]) (by simpa using h4) (fun h => hq (by rw [h])) (fun h => hr (fun h' => h (by injection h')))) rfl (by repeat' (first | exact True.intro | refine ⟨⟨_, _, rfl, rfl, Wk.rfl⟩, ?_⟩ | refine ⟨⟨_, _, accV_ren rfl, rfl, Wk.rfl⟩, ?_⟩ | refine ⟨⟨_, _, accV_ren rfl, rfl, Wk.acc0⟩, ?_⟩ | refine ⟨⟨_, _, rfl, rfl, Wk.uncap⟩, ?_⟩ | refine ⟨⟨_, _, rfl, rfl, Wk.nil⟩, ?_⟩)) (by repeat' (first | exact True.intro | refine ⟨⟨_, _, _, rfl, rfl, rfl, WkO.rfl⟩, ?_⟩ | refine HeapOK.acc rfl rfl ?_)))
      · rw [h5] at hc; omega
theorem EqInts_spec (za zb : Bool) (ca cb : Option Nat) (a b : List Int) (hl : a.length ≤ 100000000000) : CallS Try.prog base 32 [.c (.p (.tz za 1 (inP a) ca)), .c (.p (.tz zb 1 (inP b) cb))] ⟨[], 0⟩ (.c (.p (.bs (decide (a = b))))) ⟨[], 0⟩ := by
  refine CallS.of noNG lEqi.2 rfl (M.start (M.go rfl ?_))
  refine M.condN rfl (fun h1 => ?_) (fun h1 => ?_)
  · refine M.go rfl ?_
    rw [decide_eq_false (p := a = b) (fun h => h1 (by rw [h]))]
    exact M.ret (M.go rfl (M.done (finQ.ret [] rfl rfl rfl (by first | exact Wk.rfl | exact Wk.uncap | exact Wk.nil | exact Wk.b1 rfl | exact Wk.t2 Wk.rfl (Wk.b1 rfl)) (by repeat' (first | exact True.intro | refine ⟨⟨_, _, _, rfl, rfl, rfl, WkO.rfl⟩, ?_⟩ | refine HeapOK.acc rfl rfl ?_)))))
  · refine M.go rfl ?_
    have h2 : a.length = b.length := by rw [inP_len, inP_len] at h1; omega
    refine M.loop (XH.ren [] (eqi_loop za zb ca cb a b hl _ a b [] [] rfl rfl rfl h2 (fun h => ?_) (fun h => ?_)) rfl (by repeat' (first | exact True.intro | refine ⟨⟨_, _, rfl, rfl, Wk.rfl⟩, ?_⟩ | refine ⟨⟨_, _, accV_ren rfl, rfl, Wk.rfl⟩, ?_⟩ | refine ⟨⟨_, _, accV_ren rfl, rfl, Wk.acc0⟩, ?_⟩ | refine ⟨⟨_, _, rfl, rfl, Wk.uncap⟩, ?_⟩ | refine ⟨⟨_, _, rfl, rfl, Wk.nil⟩, ?_⟩)) (by repeat' (first | exact True.intro | refine ⟨⟨_, _, _, rfl, rfl, rfl, WkO.rfl⟩, ?_⟩ | refine HeapOK.acc rfl rfl ?_)))
    · refine M.q (M.go rfl ?_)
      rw [decide_eq_true h]
      exact M.ret (M.go rfl (M.done (finQ.ret [] rfl rfl rfl (by first | exact Wk.rfl | exact Wk.uncap | exact Wk.nil | exact Wk.b1 rfl | exact Wk.t2 Wk.rfl (Wk.b1 rfl)) (by repeat' (first | exact True.intro | refine ⟨⟨_, _, _, rfl, rfl, rfl, WkO.rfl⟩, ?_⟩ | refine HeapOK.acc rfl rfl ?_)))))
    · refine M.q (M.go rfl ?_)
      rw [decide_eq_false h]
      exact M.done (finQ.ret [] rfl rfl rfl (by first | exact Wk.rfl | exact Wk.uncap | exact Wk.nil | exact Wk.b1 rfl | exact Wk.t2 Wk.rfl (Wk.b1 rfl)) (by repeat' (first | exact True.intro | refine ⟨⟨_, _, _, rfl, rfl, rfl, WkO.rfl⟩, ?_⟩ | refine HeapOK.acc rfl rfl ?_)))
/-! LogConf. -/
def cfIs (a : Int) : Prop := 1 ≤ a ∧ a ≤ 7
instance (a : Int) : Decidable (cfIs a) := inferInstanceAs (Decidable (1 ≤ a ∧ a ≤ 7))
def cEnt (j : Nat) (a : Int) : Ent := if cfIs a then ⟨j + 1, 1, 3, false, [a.toNat], some 1⟩ else ⟨j + 1, 1, 2, true, [], none⟩
def cEs : Nat → List Int → List Ent
  | _, [] => []
  | j, a :: l => cEnt j a :: cEs (j + 1) l
theorem cEs_app : ∀ (l r : List Int) (j : Nat), cEs j (l ++ r) = cEs j l ++ cEs (j + l.length) r
  | [], r, j => rfl
  | a :: l, r, j => by rw [List.cons_append, cEs, cEs_app l r (j + 1), cEs, List.cons_append, List.length_cons, show j + (l.length + 1) = j + 1 + l.length by omega]
theorem cEs_len : ∀ (l : List Int) (j : Nat), (cEs j l).length = l.length
  | [], _ => rfl
  | a :: l, j => by rw [cEs, List.length_cons, cEs_len l, List.length_cons]
def cLast (c : List Int) (a : Int) : List Int := if cfIs a then [a] else c
def cur (l : List Int) : List Int := l.foldl cLast [1, 2, 3]
def cfs (l : List Int) : List (List Int) := (List.range (l.length + 1)).map fun j => cur (l.take j)
def cPC (c : List Int) : PC := .tz false 1 (inP c) none
def cfP (l : List Int) : List PC := (cfs l).map cPC
theorem cur_app (l : List Int) (a : Int) : cur (l ++ [a]) = cLast (cur l) a := by simp [cur]
theorem cfs_app (l : List Int) (a : Int) : cfs (l ++ [a]) = cfs l ++ [cLast (cur l) a] := by
  unfold cfs
  rw [show (l ++ [a]).length + 1 = l.length + 1 + 1 by simp, List.range_succ, List.map_append]
  congr 1
  · refine List.map_congr_left fun j hj => ?_
    rw [List.mem_range] at hj
    rw [List.take_append_of_le_length (by omega)]
  · simp only [List.map_cons, List.map_nil]
    rw [List.take_of_length_le (by simp), cur_app]
theorem cfP_app (l : List Int) (a : Int) : cfP (l ++ [a]) = cfP l ++ [cPC (cLast (cur l) a)] := by rw [cfP, cfs_app, List.map_append]; rfl
theorem cfP_len (l : List Int) : (cfP l).length = l.length + 1 := by simp [cfP, cfs]
theorem cfP_get (l : List Int) (j : Nat) (h : j ≤ l.length) : (cfP l)[j]? = some (cPC (cur (l.take j))) := by
  rw [cfP, cfs, List.getElem?_map, List.getElem?_map, List.getElem?_range (by omega)]; rfl
theorem memL_one (a : Int) (h : cfIs a) : natI (memL [a.toNat]) = [a] := by
  obtain ⟨h1, h2⟩ := h
  have : memB 0 [a.toNat] = true := by simp [memB]; omega
  rw [memL, if_pos this]
  simp [natI]; omega
theorem cEnt_may (j : Nat) (a t : Int) (ht : t ≤ 1) : entB (j + 1) t (cEnt j a) = true := by
  unfold cEnt
  by_cases h : cfIs a
  · obtain ⟨h1, h2⟩ := h
    have h3 : memB 0 [a.toNat] = true := by simp [memB]; omega
    have h4 : ¬ (1 : Int) < t := by omega
    rw [if_pos ⟨h1, h2⟩]
    simp [entB, memL, h3, h4]
  · have h4 : ¬ (1 : Int) < t := by omega
    rw [if_neg h]
    simp [entB, h4]
theorem cEnt_tm (j : Nat) (a : Int) : (cEnt j a).tm = 1 := by unfold cEnt; split <;> rfl
theorem cEs_may : ∀ (l : List Int) (j : Nat) (t : Int), t ≤ 1 → j + l.length ≤ 1000 → mayF j t (cEs j l) = true
  | [], _, _, _, _ => rfl
  | a :: l, j, t, ht, hj => by
    have h0 := cEs_may l (j + 1) 1 (by omega) (by simp at hj; omega)
    have h1 : ¬ (j : Int) = 9223372036854775807 := by simp at hj; omega
    rw [cEs, mayF, cEnt_may j a t ht, cEnt_tm, decide_eq_false h1]
    simpa using h0
theorem cEs_ok : ∀ (l : List Int) (j : Nat), j + l.length ≤ 1000 → ∀ e ∈ cEs j l, e.ok
  | [], _, _, e, he => by cases he
  | a :: l, j, hj, e, he => by
    simp only [List.length_cons] at hj
    rw [cEs, List.mem_cons] at he
    rcases he with rfl | he
    · unfold cEnt
      split
      · rename_i h
        obtain ⟨h1, h2⟩ := h
        exact ⟨⟨by show _ ≤ (j : Int) + 1; omega, by show (j : Int) + 1 ≤ _; omega⟩, ⟨by simp, by simp⟩, ⟨by simp, by simp⟩, ⟨by simp, by intro b hb; obtain rfl := List.mem_singleton.1 hb; omega⟩⟩
      · exact ⟨⟨by show _ ≤ (j : Int) + 1; omega, by show (j : Int) + 1 ≤ _; omega⟩, ⟨by simp, by simp⟩, ⟨by simp, by simp⟩, ⟨by simp, by simp⟩⟩
    · exact cEs_ok l (j + 1) (by omega) e he
theorem cEs_get : ∀ (l : List Int) (k j : Nat), j < l.length → (cEs k l)[j]? = some (cEnt (k + j) (l.getD j 0))
  | [], _, _, h => by simp at h
  | a :: l, k, 0, _ => by simp [cEs]
  | a :: l, k, j + 1, h => by
    rw [cEs, List.getElem?_cons_succ, cEs_get l (k + 1) j (by simp at h; omega), show k + 1 + j = k + (j + 1) by omega]; rfl
def cS : Snp := ⟨0, 0, false, [1, 2, 3], none, true, [], none⟩
theorem cS_ok : cS.ok := ⟨⟨by simp [cS], by simp [cS]⟩, ⟨by simp [cS], by simp [cS]⟩, ⟨by simp [cS], by
  intro i hi
  simp [cS] at hi
  unfold I64
  omega⟩, ⟨by simp [cS], by simp [cS]⟩⟩
def cLog (l : List Int) : PLog := ⟨cS.own, (cEs 0 l).map Ent.own, true, none⟩
theorem cLog_ok (l : List Int) (h : l.length ≤ 20) : (cLog l).ok := ⟨cS_ok, by simp [cLog, cS, Snp.own], by simp [PLog.last, cLog, cS, Snp.own, cEs_len]; omega, by simp [cLog, cEs_len]; omega, by
  intro e he
  simp only [cLog, List.mem_map] at he
  obtain ⟨e', h1, rfl⟩ := he
  have := cEs_ok l 0 (by omega) e' h1
  exact ⟨this.1, this.2, this.3, this.4⟩⟩
theorem cLog_conf (l : List Int) : ∀ j, j ≤ l.length → ∃ z, (cLog l).confN j = (z, cur (l.take j))
  | 0, _ => ⟨false, rfl⟩
  | j + 1, h => by
    obtain ⟨z, hz⟩ := cLog_conf l j (by omega)
    have hj : j < l.length := by omega
    have hg : (cLog l).E.getD j default = (cEnt j (l.getD j 0)).own := by
      rw [List.getD_eq_getElem?_getD, show (cLog l).E = (cEs 0 l).map Ent.own from rfl, List.getElem?_map, cEs_get l 0 j hj]; simp
    have ht : l.take (j + 1) = l.take j ++ [l.getD j 0] := by
      rw [List.take_add_one, List.getD_eq_getElem?_getD, List.getElem?_eq_getElem hj]; rfl
    rw [PLog.confN, hg, ht, cur_app, hz]
    unfold cEnt cLast
    by_cases hc : cfIs (l.getD j 0)
    · rw [if_pos hc, if_pos hc]
      refine ⟨true, (if_pos rfl).trans ?_⟩
      show (true, natI (memL [(l.getD j 0).toNat])) = _
      rw [memL_one _ hc]
    · rw [if_neg hc, if_neg hc]
      exact ⟨z, if_neg (by simp [Ent.own])⟩
theorem cLog_confAt (l : List Int) (j : Nat) (h : j ≤ l.length) : ∃ z, (cLog l).confAt j = (z, cur (l.take j)) := by
  have h1 : (cLog l).last = l.length := by simp [PLog.last, cLog, cS, Snp.own, cEs_len]
  have h2 : (min (j : Int) (cLog l).last - (cLog l).S.ix).toNat = j := by rw [h1, show (cLog l).S.ix = 0 from rfl]; omega
  rw [PLog.confAt, h2]
  exact cLog_conf l j h
end Go.Proofs.Yteegdhfekemhmaa

/- delphiref22: the same entry, snapshot, entries. -/
namespace Go.Proofs.Yteegdhfekemhmaa
open Go.RowKit Sim Go Sym
set_option maxRecDepth 100000
set_option linter.unusedVariables false
set_option linter.unusedSimpArgs false
variable {base : Nat}
noncomputable def lEqe : {F : LF // lowerF Try.prog 108 = some F} := ⟨_, rfl⟩
def Ent.eqv (e f : Ent) : Bool := decide (e.ix = f.ix) && (decide (e.tm = f.tm) && (decide (e.kd = f.kd) && eqL e.d f.d))
theorem bytes_of {l : List Nat} (h : okB l) : bytesX (byP l) = some l := bytesX_map h.2
theorem EqEntry_spec (e f : Ent) (he : okB e.d) (hf : okB f.d) : CallS Try.prog base 108 [e.v, f.v] ⟨[], 0⟩ (.c (.p (.bs (e.eqv f)))) ⟨[], 0⟩ := by
  refine CallS.of noNG lEqe.2 rfl (M.start (M.go rfl ?_))
  refine M.dec rfl (fun h1 => ?_) (fun h1 => ?_)
  · refine M.go rfl ?_
    refine M.dec rfl (fun h2 => ?_) (fun h2 => ?_)
    · refine M.go rfl ?_
      refine M.dec rfl (fun h3 => ?_) (fun h3 => ?_)
      · refine M.go rfl ?_
        refine M.op rfl (SOp.cvBS rfl (bytes_of he)) ?_
        refine M.go rfl ?_
        refine M.op rfl (SOp.cvBS rfl (bytes_of hf)) ?_
        refine M.go rfl ?_
        refine M.ret (M.go rfl (M.done (finQ.ret [] rfl rfl rfl (Wk.b1 ?_) (by repeat' (first | exact True.intro | refine ⟨⟨_, _, _, rfl, rfl, rfl, WkO.rfl⟩, ?_⟩ | refine HeapOK.acc rfl rfl ?_)))))
        simp [Ent.eqv, h1, h2, h3]
      · refine M.go rfl ?_
        refine M.ret (M.go rfl (M.done (finQ.ret [] rfl rfl rfl (Wk.of ?_) (by repeat' (first | exact True.intro | refine ⟨⟨_, _, _, rfl, rfl, rfl, WkO.rfl⟩, ?_⟩ | refine HeapOK.acc rfl rfl ?_)))))
        rw [Ent.eqv, decide_eq_false h3]; simp [XV.sv, XC.sc, PC.sc]
    · refine M.go rfl ?_
      refine M.ret (M.go rfl (M.done (finQ.ret [] rfl rfl rfl (Wk.of ?_) (by repeat' (first | exact True.intro | refine ⟨⟨_, _, _, rfl, rfl, rfl, WkO.rfl⟩, ?_⟩ | refine HeapOK.acc rfl rfl ?_)))))
      rw [Ent.eqv, decide_eq_false h2]; simp [XV.sv, XC.sc, PC.sc]
  · refine M.go rfl ?_
    refine M.ret (M.go rfl (M.done (finQ.ret [] rfl rfl rfl (Wk.of ?_) (by repeat' (first | exact True.intro | refine ⟨⟨_, _, _, rfl, rfl, rfl, WkO.rfl⟩, ?_⟩ | refine HeapOK.acc rfl rfl ?_)))))
    rw [Ent.eqv, decide_eq_false h1]; simp [XV.sv, XC.sc, PC.sc]
noncomputable def lEqs : {F : LF // lowerF Try.prog 45 = some F} := ⟨_, rfl⟩
def Snp.eqv (s t : Snp) : Bool := decide (s.ix = t.ix) && (decide (s.tm = t.tm) && (decide (s.cf = t.cf) && eqL s.d t.d))
theorem EqSnap_spec (s t : Snp) (hs : s.ok) (ht : t.ok) : CallS Try.prog base 45 [s.v, t.v] ⟨[], 0⟩ (.c (.p (.bs (s.eqv t)))) ⟨[], 0⟩ := by
  refine CallS.of noNG lEqs.2 rfl (M.start (M.go rfl ?_))
  refine M.dec rfl (fun h1 => ?_) (fun h1 => ?_)
  · refine M.go rfl ?_
    refine M.dec rfl (fun h2 => ?_) (fun h2 => ?_)
    · refine M.go rfl ?_
      refine M.use0 rfl (EqInts_spec s.cz t.cz s.cc t.cc s.cf t.cf hs.cf.1) rfl rfl rfl ?_
      refine M.go rfl ?_
      refine M.dec rfl (fun h3 => ?_) (fun h3 => ?_)
      · refine M.go rfl ?_
        refine M.op rfl (SOp.cvBS rfl (bytes_of hs.d)) ?_
        refine M.go rfl ?_
        refine M.op rfl (SOp.cvBS rfl (bytes_of ht.d)) ?_
        refine M.go rfl ?_
        refine M.ret (M.go rfl (M.done (finQ.ret [] rfl rfl rfl (Wk.b1 ?_) (by repeat' (first | exact True.intro | refine ⟨⟨_, _, _, rfl, rfl, rfl, WkO.rfl⟩, ?_⟩ | refine HeapOK.acc rfl rfl ?_)))))
        simp [Snp.eqv, h1, h2, h3]
      · refine M.go rfl ?_
        refine M.ret (M.go rfl (M.done (finQ.ret [] rfl rfl rfl (Wk.of ?_) (by repeat' (first | exact True.intro | refine ⟨⟨_, _, _, rfl, rfl, rfl, WkO.rfl⟩, ?_⟩ | refine HeapOK.acc rfl rfl ?_)))))
        rw [Snp.eqv, decide_eq_false h3]; simp [XV.sv, XC.sc, PC.sc]
    · refine M.go rfl ?_
      refine M.ret (M.go rfl (M.done (finQ.ret [] rfl rfl rfl (Wk.of ?_) (by repeat' (first | exact True.intro | refine ⟨⟨_, _, _, rfl, rfl, rfl, WkO.rfl⟩, ?_⟩ | refine HeapOK.acc rfl rfl ?_)))))
      rw [Snp.eqv, decide_eq_false h2]; simp [XV.sv, XC.sc, PC.sc]
  · refine M.go rfl ?_
    refine M.ret (M.go rfl (M.done (finQ.ret [] rfl rfl rfl (Wk.of ?_) (by repeat' (first | exact True.intro | refine ⟨⟨_, _, _, rfl, rfl, rfl, WkO.rfl⟩, ?_⟩ | refine HeapOK.acc rfl rfl ?_)))))
    rw [Snp.eqv, decide_eq_false h1]; simp [XV.sv, XC.sc, PC.sc]
noncomputable def lEqs4 : {F : LF // lowerF Try.prog 110 = some F} := ⟨_, rfl⟩
def eqvL : List Ent → List Ent → Bool
  | [], [] => true
  | e :: l, f :: r => e.eqv f && eqvL l r
  | _, _ => false
theorem eqvL_len : ∀ {l r : List Ent}, ¬ l.length = r.length → eqvL l r = false
  | [], [], h => absurd rfl h
  | [], _ :: _, _ => rfl
  | _ :: _, [], _ => rfl
  | e :: l, f :: r, h => by rw [eqvL, eqvL_len (by simpa using h), Bool.and_false]
theorem eqs_loop (za zb : Bool) (ca cb : Option Nat) (a b : List Ent) (hl : a.length ≤ 100000000000) (ha : ∀ e ∈ a, e.ok) (hb : ∀ e ∈ b, e.ok) (Q : QX) :
    ∀ (ra rb pa pb : List Ent), a = pa ++ ra → b = pb ++ rb → pa.length = pb.length → ra.length = rb.length → (eqvL ra rb = true → Q (.exit 0) [] ⟨[], 0⟩) → (eqvL ra rb = false → Q .ret [(4, .c (.p (.bool false)))] ⟨[], 0⟩) →
      XH Try.prog base lEqs4.1.n 0 (lEqs4.1.c.lp 0) [(0, .c (.p (.tz za 4 (entP a) ca))), (1, .c (.p (.tz zb 4 (entP b) cb))), (5, .c (.p (.int .i64 pa.length)))] ⟨[], 0⟩ Q := by
  intro ra
  induction ra with
  | nil =>
    intro rb pa pb h1 h2 h3 h4 hq hr
    refine M.round (M.go rfl ?_)
    have h5 : (entP a).length = pa.length := by rw [h1, entP_len]; simp
    refine M.cond rfl (fun hc => ?_) (fun hc => ?_)
    · rw [h5] at hc; omega
    · refine M.ren [] ?_ trivial rfl (by repeat' (first | exact True.intro | refine ⟨⟨_, _, rfl, rfl, Wk.rfl⟩, ?_⟩ | refine ⟨⟨_, _, accV_ren rfl, rfl, Wk.rfl⟩, ?_⟩ | refine ⟨⟨_, _, accV_ren rfl, rfl, Wk.acc0⟩, ?_⟩ | refine ⟨⟨_, _, rfl, rfl, Wk.uncap⟩, ?_⟩ | refine ⟨⟨_, _, rfl, rfl, Wk.nil⟩, ?_⟩)) (by repeat' (first | exact True.intro | refine ⟨⟨_, _, _, rfl, rfl, rfl, WkO.rfl⟩, ?_⟩ | refine HeapOK.acc rfl rfl ?_)) (e' := []) (h' := ⟨[], 0⟩)
      exact M.exit (M.go rfl (M.done (hq (by cases rb <;> simp_all [eqvL]))))
  | cons x ra ih =>
    intro rb pa pb h1 h2 h3 h4 hq hr
    cases rb with
    | nil => simp at h4
    | cons y rb =>
      refine M.round (M.go rfl ?_)
      have h5 : (entP a).length = pa.length + (ra.length + 1) := by rw [h1, entP_len]; simp
      have hw : IntKind.i64.wrap ((pa.length : Int) + 1) = ((pa ++ [x]).length : Int) := by rw [entP_len] at h5; rw [wr64 (by omega) (by omega)]; simp
      have hu : (entP a)[((pa.length : Int)).toNat]? = some x.pc := by rw [h1]; exact at_app _ _ _ _
      have hv : (entP b)[((pa.length : Int)).toNat]? = some y.pc := by rw [h2, h3]; exact at_app _ _ _ _
      have hx : x.ok := ha x (by rw [h1]; simp)
      have hy : y.ok := hb y (by rw [h2]; simp)
      refine M.cond rfl (fun hc => ?_) (fun hc => ?_)
      · refine M.go rfl (M.regD (MD.go rfl ?_))
        refine MD.op trivial (SOp.ia rfl rfl (by omega) hu) ?_
        refine MD.op trivial (SOp.ldne rfl hu rfl rfl rfl) (MD.go rfl ?_)
        refine MD.op trivial (SOp.ia rfl rfl (by omega) hv) ?_
        refine MD.op trivial (SOp.ldne rfl hv rfl rfl rfl) (MD.go rfl ?_)
        refine MD.use0 trivial (EqEntry_spec x y hx.d hy.d) rfl rfl rfl (MD.go rfl (MD.nil mixed (Fnl.nodup rfl) (M.go rfl ?_)))
        refine M.condB rfl (fun hxy => ?_) (fun hxy => ?_)
        · refine M.go rfl ?_
          refine M.ren [] ?_ trivial rfl (by repeat' (first | exact True.intro | refine ⟨⟨_, _, rfl, rfl, Wk.rfl⟩, ?_⟩ | refine ⟨⟨_, _, accV_ren rfl, rfl, Wk.rfl⟩, ?_⟩ | refine ⟨⟨_, _, accV_ren rfl, rfl, Wk.acc0⟩, ?_⟩ | refine ⟨⟨_, _, rfl, rfl, Wk.uncap⟩, ?_⟩ | refine ⟨⟨_, _, rfl, rfl, Wk.nil⟩, ?_⟩)) (by repeat' (first | exact True.intro | refine ⟨⟨_, _, _, rfl, rfl, rfl, WkO.rfl⟩, ?_⟩ | refine HeapOK.acc rfl rfl ?_)) (e' := [(4, .c (.p (.bool false)))]) (h' := ⟨[], 0⟩)
          exact M.ret (M.go rfl (M.done (hr (by rw [eqvL]; rw [Bool.not_eq_true'] at hxy; rw [hxy]; rfl))))
        · refine M.go rfl ?_
          rw [hw]
          have hxy' : x.eqv y = true := by simpa using hxy
          have e0 : eqvL (x :: ra) (y :: rb) = eqvL ra rb := by rw [eqvL, hxy', Bool.true_and]
          rw [e0] at hq hr
          exact M.again (XH.ren [] (ih rb (pa ++ [x]) (pb ++ [y]) (by rw [h1]; simp) (by rw [h2]; simp) (by simp [h3]) (by simpa using h4) hq hr) rfl (by repeat' (first | exact True.intro | refine ⟨⟨_, _, rfl, rfl, Wk.rfl⟩, ?_⟩ | refine ⟨⟨_, _, accV_ren rfl, rfl, Wk.rfl⟩, ?_⟩ | refine ⟨⟨_, _, accV_ren rfl, rfl, Wk.acc0⟩, ?_⟩ | refine ⟨⟨_, _, rfl, rfl, Wk.uncap⟩, ?_⟩ | refine ⟨⟨_, _, rfl, rfl, Wk.nil⟩, ?_⟩)) (by repeat' (first | exact True.intro | refine ⟨⟨_, _, _, rfl, rfl, rfl, WkO.rfl⟩, ?_⟩ | refine HeapOK.acc rfl rfl ?_)))
      · rw [h5] at hc; omega
theorem EqEntries_spec (za zb : Bool) (ca cb : Option Nat) (a b : List Ent) (hl : a.length ≤ 100000000000) (ha : ∀ e ∈ a, e.ok) (hb : ∀ e ∈ b, e.ok) : CallS Try.prog base 110 [.c (.p (.tz za 4 (entP a) ca)), .c (.p (.tz zb 4 (entP b) cb))] ⟨[], 0⟩ (.c (.p (.bs (eqvL a b)))) ⟨[], 0⟩ := by
  refine CallS.of noNG lEqs4.2 rfl (M.start (M.go rfl ?_))
  refine M.condN rfl (fun h1 => ?_) (fun h1 => ?_)
  · refine M.go rfl ?_
    rw [eqvL_len (fun h => h1 (by rw [entP_len, entP_len, h]))]
    exact M.ret (M.go rfl (M.done (finQ.ret [] rfl rfl rfl (by first | exact Wk.rfl | exact Wk.uncap | exact Wk.nil | exact Wk.b1 rfl | exact Wk.t2 Wk.rfl (Wk.b1 rfl)) (by repeat' (first | exact True.intro | refine ⟨⟨_, _, _, rfl, rfl, rfl, WkO.rfl⟩, ?_⟩ | refine HeapOK.acc rfl rfl ?_)))))
  · refine M.go rfl ?_
    have h2 : a.length = b.length := by rw [entP_len, entP_len] at h1; omega
    refine M.loop (XH.ren [] (eqs_loop za zb ca cb a b hl ha hb _ a b [] [] rfl rfl rfl h2 (fun h => ?_) (fun h => ?_)) rfl (by repeat' (first | exact True.intro | refine ⟨⟨_, _, rfl, rfl, Wk.rfl⟩, ?_⟩ | refine ⟨⟨_, _, accV_ren rfl, rfl, Wk.rfl⟩, ?_⟩ | refine ⟨⟨_, _, accV_ren rfl, rfl, Wk.acc0⟩, ?_⟩ | refine ⟨⟨_, _, rfl, rfl, Wk.uncap⟩, ?_⟩ | refine ⟨⟨_, _, rfl, rfl, Wk.nil⟩, ?_⟩)) (by repeat' (first | exact True.intro | refine ⟨⟨_, _, _, rfl, rfl, rfl, WkO.rfl⟩, ?_⟩ | refine HeapOK.acc rfl rfl ?_)))
    · refine M.q (M.go rfl ?_)
      rw [h]
      exact M.ret (M.go rfl (M.done (finQ.ret [] rfl rfl rfl (by first | exact Wk.rfl | exact Wk.uncap | exact Wk.nil | exact Wk.b1 rfl | exact Wk.t2 Wk.rfl (Wk.b1 rfl)) (by repeat' (first | exact True.intro | refine ⟨⟨_, _, _, rfl, rfl, rfl, WkO.rfl⟩, ?_⟩ | refine HeapOK.acc rfl rfl ?_)))))
    · refine M.q (M.go rfl ?_)
      rw [h]
      exact M.done (finQ.ret [] rfl rfl rfl (by first | exact Wk.rfl | exact Wk.uncap | exact Wk.nil | exact Wk.b1 rfl | exact Wk.t2 Wk.rfl (Wk.b1 rfl)) (by repeat' (first | exact True.intro | refine ⟨⟨_, _, _, rfl, rfl, rfl, WkO.rfl⟩, ?_⟩ | refine HeapOK.acc rfl rfl ?_)))
end Go.Proofs.Yteegdhfekemhmaa

/- delphiref22: Members, Ids (as in ballot's texts, for rlog's seat). -/
namespace Go.Proofs.Yteegdhfekemhmaa
open Go.RowKit Sim Go Sym
set_option maxRecDepth 100000
set_option linter.unusedVariables false
set_option linter.unusedSimpArgs false
variable {base : Nat}
theorem inPl (l : List Int) : (inP l).length = l.length := by simp [inP]
def incB : Int → List Int → Bool
  | _, [] => true
  | p, b :: l => (decide (p < b) && decide (b ≤ 7)) && incB b l
theorem incB_app : ∀ (l r : List Int) (p : Int), incB p (l ++ r) = (incB p l && incB (l.getLast?.getD p) r)
  | [], r, p => by simp [incB]
  | b :: l, r, p => by
    have : (b :: l).getLast?.getD p = l.getLast?.getD b := by cases l <;> simp [List.getLast?_cons]
    rw [List.cons_append, incB, incB, incB_app l r b, this]; simp only [Bool.and_assoc]
theorem incB_last : ∀ (l : List Int) (p : Int), incB p l = true → p ≤ l.getLast?.getD p
  | [], p, _ => by simp
  | b :: l, p, h => by
    simp only [incB, Bool.and_eq_true, decide_eq_true_eq] at h
    have := incB_last l b h.2
    have e : (b :: l).getLast?.getD p = l.getLast?.getD b := by cases l <;> simp [List.getLast?_cons]
    rw [e]; omega
def mayI (l : List Int) : Bool := incB 0 l && !l.isEmpty
theorem incB_len : ∀ (l : List Int) (p : Int), p ≤ 7 → incB p l = true → p + l.length ≤ 7
  | [], p, h, _ => by simpa using h
  | b :: l, p, h, hi => by
    simp only [incB, Bool.and_eq_true, decide_eq_true_eq] at hi
    have := incB_len l b hi.1.2 hi.2
    simp only [List.length_cons]
    omega
noncomputable def lMbr : {F : LF // lowerF Try.prog 103 = some F} := ⟨_, rfl⟩
theorem mbr_loop (z : Bool) (c : Option Nat) (l : List Int) (hl : l.length ≤ 100000000000000) (Q : QX) (hq : incB 0 l = true → Q (.exit 0) [(0, .c (.p (.tz z 1 (inP l) c)))] ⟨[], 0⟩) (hr : incB 0 l = false → Q .ret [(2, .c (.p (.bool false)))] ⟨[], 0⟩) :
    ∀ (rest pre : List Int), l = pre ++ rest → incB 0 pre = true → XH Try.prog base lMbr.1.n 0 (lMbr.1.c.lp 0) [(0, .c (.p (.tz z 1 (inP l) c))), (3, .c (.p (.int .i64 pre.length)))] ⟨[], 0⟩ Q := by
  intro rest
  induction rest with
  | nil =>
    intro pre hp hm
    refine M.round (M.go rfl ?_)
    simp at hp
    subst hp
    refine M.cond rfl (fun hc => ?_) (fun hc => ?_)
    · rw [inPl] at hc; omega
    · refine M.ren [] ?_ trivial rfl (by repeat' (first | exact True.intro | refine ⟨⟨_, _, rfl, rfl, Wk.rfl⟩, ?_⟩ | refine ⟨⟨_, _, accV_ren rfl, rfl, Wk.rfl⟩, ?_⟩ | refine ⟨⟨_, _, accV_ren rfl, rfl, Wk.acc0⟩, ?_⟩ | refine ⟨⟨_, _, rfl, rfl, Wk.uncap⟩, ?_⟩ | refine ⟨⟨_, _, rfl, rfl, Wk.nil⟩, ?_⟩)) (by repeat' (first | exact True.intro | refine ⟨⟨_, _, _, rfl, rfl, rfl, WkO.rfl⟩, ?_⟩ | refine HeapOK.acc rfl rfl ?_)) (e' := [(0, .c (.p (.tz z 1 (inP l) c)))]) (h' := ⟨[], 0⟩)
      exact M.exit (M.go rfl (M.done (hq hm)))
  | cons b rest ih =>
    intro pre hp hm
    have hlen : (inP l).length = pre.length + (rest.length + 1) := by rw [hp, inPl]; simp
    have hll : pre.length + rest.length < 100000000000000 := by rw [hp] at hl; simp at hl; omega
    have hpos : 0 ≤ pre.getLast?.getD 0 := incB_last pre 0 hm
    have hw2 : IntKind.i64.wrap ((pre.length : Int) + 1) = ((pre ++ [b]).length : Int) := by rw [wr64 (by omega) (by omega)]; simp
    have hu : (inP l)[((pre.length : Int)).toNat]? = some (.int .i64 b) := by rw [hp]; exact at_app _ _ _ _
    have hmb : incB 0 l = ((decide (pre.getLast?.getD 0 < b) && decide (b ≤ 7)) && incB b rest) := by rw [hp, incB_app, hm, Bool.true_and, incB]
    refine M.round (M.go rfl ?_)
    refine M.cond rfl (fun hc => ?_) (fun hc => absurd (by rw [hlen]; omega) hc)
    refine M.go rfl (M.regD (MD.go rfl ?_))
    refine MD.op trivial (SOp.ia rfl rfl (by omega) hu) ?_
    refine MD.op trivial (SOp.ld1e rfl hu rfl rfl rfl) ?_
    by_cases h1 : b < 1
    · refine MD.op trivial (SOp.binT rfl rfl rfl (decide_eq_true h1)) (MD.go rfl (MD.nil mixed (Fnl.nodup rfl) (M.go rfl ?_)))
      refine M.ren [] ?_ trivial rfl (by repeat' (first | exact True.intro | refine ⟨⟨_, _, rfl, rfl, Wk.rfl⟩, ?_⟩ | refine ⟨⟨_, _, accV_ren rfl, rfl, Wk.rfl⟩, ?_⟩ | refine ⟨⟨_, _, accV_ren rfl, rfl, Wk.acc0⟩, ?_⟩ | refine ⟨⟨_, _, rfl, rfl, Wk.uncap⟩, ?_⟩ | refine ⟨⟨_, _, rfl, rfl, Wk.nil⟩, ?_⟩)) (by repeat' (first | exact True.intro | refine ⟨⟨_, _, _, rfl, rfl, rfl, WkO.rfl⟩, ?_⟩ | refine HeapOK.acc rfl rfl ?_)) (e' := [(2, .c (.p (.bool false)))]) (h' := ⟨[], 0⟩)
      exact M.ret (M.go rfl (M.done (hr (by rw [hmb, decide_eq_false (p := _ < b) (by omega)]; rfl))))
    · refine MD.op trivial (SOp.binF rfl rfl rfl (decide_eq_false h1)) (MD.go rfl ?_)
      refine MD.op rfl (SOp.ia rfl rfl (by omega) hu) ?_
      refine MD.op rfl (SOp.ld1e rfl hu rfl rfl rfl) ?_
      by_cases h2 : 7 < b
      · refine MD.op rfl (SOp.binT rfl rfl rfl (decide_eq_true h2)) (MD.go rfl (MD.nil mixed (Fnl.nodup rfl) (M.go rfl ?_)))
        refine M.ren [] ?_ trivial rfl (by repeat' (first | exact True.intro | refine ⟨⟨_, _, rfl, rfl, Wk.rfl⟩, ?_⟩ | refine ⟨⟨_, _, accV_ren rfl, rfl, Wk.rfl⟩, ?_⟩ | refine ⟨⟨_, _, accV_ren rfl, rfl, Wk.acc0⟩, ?_⟩ | refine ⟨⟨_, _, rfl, rfl, Wk.uncap⟩, ?_⟩ | refine ⟨⟨_, _, rfl, rfl, Wk.nil⟩, ?_⟩)) (by repeat' (first | exact True.intro | refine ⟨⟨_, _, _, rfl, rfl, rfl, WkO.rfl⟩, ?_⟩ | refine HeapOK.acc rfl rfl ?_)) (e' := [(2, .c (.p (.bool false)))]) (h' := ⟨[], 0⟩)
        exact M.ret (M.go rfl (M.done (hr (by rw [hmb, decide_eq_false (p := b ≤ 7) (by omega)]; simp))))
      · refine MD.op rfl (SOp.binF rfl rfl rfl (decide_eq_false h2)) (MD.goN 3 rfl ?_)
        by_cases h3 : 0 < (pre.length : Int)
        · refine MD.op rfl (SOp.binT rfl rfl rfl (decide_eq_true h3)) (MD.go rfl ?_)
          obtain ⟨p0, q, rfl⟩ : ∃ p0 q, pre = p0 ++ [q] := ⟨_, _, (List.dropLast_concat_getLast (by rintro rfl; simp at h3)).symm⟩
          have hw : IntKind.i64.wrap (((p0 ++ [q]).length : Int) - 1) = p0.length := by
            rw [wr64 (by simp) (by simp at hll ⊢; omega)]; simp
          have hu' : (inP l)[((p0.length : Int)).toNat]? = some (.int .i64 q) := by rw [hp, List.append_assoc]; exact at_app _ _ _ _
          have e1 : (p0 ++ [q]).getLast?.getD 0 = q := by simp
          refine MD.op rfl (SOp.ia rfl rfl (by omega) hu) ?_
          refine MD.op rfl (SOp.ld1e rfl hu rfl rfl rfl) (MD.go rfl ?_)
          rw [hw]
          refine MD.op rfl (SOp.ia rfl rfl (by omega) hu') ?_
          refine MD.op rfl (SOp.ld1e rfl hu' rfl rfl rfl) ?_
          by_cases h4 : b ≤ q
          · refine MD.op rfl (SOp.binT rfl rfl rfl (decide_eq_true h4)) (MD.go rfl (MD.nil mixed (Fnl.nodup rfl) (M.go rfl ?_)))
            refine M.ren [] ?_ trivial rfl (by repeat' (first | exact True.intro | refine ⟨⟨_, _, rfl, rfl, Wk.rfl⟩, ?_⟩ | refine ⟨⟨_, _, accV_ren rfl, rfl, Wk.rfl⟩, ?_⟩ | refine ⟨⟨_, _, accV_ren rfl, rfl, Wk.acc0⟩, ?_⟩ | refine ⟨⟨_, _, rfl, rfl, Wk.uncap⟩, ?_⟩ | refine ⟨⟨_, _, rfl, rfl, Wk.nil⟩, ?_⟩)) (by repeat' (first | exact True.intro | refine ⟨⟨_, _, _, rfl, rfl, rfl, WkO.rfl⟩, ?_⟩ | refine HeapOK.acc rfl rfl ?_)) (e' := [(2, .c (.p (.bool false)))]) (h' := ⟨[], 0⟩)
            exact M.ret (M.go rfl (M.done (hr (by rw [hmb, e1, decide_eq_false (p := q < b) (by omega)]; simp))))
          · refine MD.op rfl (SOp.binF rfl rfl rfl (decide_eq_false h4)) (MD.go rfl (MD.nil mixed (Fnl.nodup rfl) (M.go rfl ?_)))
            rw [hw2]
            refine M.again (XH.ren [] (ih ((p0 ++ [q]) ++ [b]) (by rw [hp]; simp) ?_) rfl (by repeat' (first | exact True.intro | refine ⟨⟨_, _, rfl, rfl, Wk.rfl⟩, ?_⟩ | refine ⟨⟨_, _, accV_ren rfl, rfl, Wk.rfl⟩, ?_⟩ | refine ⟨⟨_, _, accV_ren rfl, rfl, Wk.acc0⟩, ?_⟩ | refine ⟨⟨_, _, rfl, rfl, Wk.uncap⟩, ?_⟩ | refine ⟨⟨_, _, rfl, rfl, Wk.nil⟩, ?_⟩)) (by repeat' (first | exact True.intro | refine ⟨⟨_, _, _, rfl, rfl, rfl, WkO.rfl⟩, ?_⟩ | refine HeapOK.acc rfl rfl ?_)))
            rw [incB_app, hm, e1]
            have g1 : q < b := by omega
            have g2 : b ≤ 7 := by omega
            simp [incB, g1, g2]
        · refine MD.op rfl (SOp.binF rfl rfl rfl (decide_eq_false h3)) (MD.go rfl (MD.nil mixed (Fnl.nodup rfl) (M.go rfl ?_)))
          rw [hw2]
          refine M.again (XH.ren [] (ih (pre ++ [b]) (by rw [hp]; simp) ?_) rfl (by repeat' (first | exact True.intro | refine ⟨⟨_, _, rfl, rfl, Wk.rfl⟩, ?_⟩ | refine ⟨⟨_, _, accV_ren rfl, rfl, Wk.rfl⟩, ?_⟩ | refine ⟨⟨_, _, accV_ren rfl, rfl, Wk.acc0⟩, ?_⟩ | refine ⟨⟨_, _, rfl, rfl, Wk.uncap⟩, ?_⟩ | refine ⟨⟨_, _, rfl, rfl, Wk.nil⟩, ?_⟩)) (by repeat' (first | exact True.intro | refine ⟨⟨_, _, _, rfl, rfl, rfl, WkO.rfl⟩, ?_⟩ | refine HeapOK.acc rfl rfl ?_)))
          have : pre = [] := List.eq_nil_of_length_eq_zero (by omega)
          subst this
          have g1 : 0 < b := by omega
          have g2 : b ≤ 7 := by omega
          simp [incB, g1, g2]
theorem mbr_spec (z : Bool) (c : Option Nat) (l : List Int) (hl : l.length ≤ 100000000000000) : CallS Try.prog base 103 [.c (.p (.tz z 1 (inP l) c))] ⟨[], 0⟩ (.c (.p (.bs (mayI l)))) ⟨[], 0⟩ := by
  refine CallS.of noNG lMbr.2 rfl (M.start (M.go rfl ?_))
  refine M.loop (XH.ren [] (mbr_loop z c l hl _ ?_ ?_ l [] rfl rfl) rfl (by repeat' (first | exact True.intro | refine ⟨⟨_, _, rfl, rfl, Wk.rfl⟩, ?_⟩ | refine ⟨⟨_, _, accV_ren rfl, rfl, Wk.rfl⟩, ?_⟩ | refine ⟨⟨_, _, accV_ren rfl, rfl, Wk.acc0⟩, ?_⟩ | refine ⟨⟨_, _, rfl, rfl, Wk.uncap⟩, ?_⟩ | refine ⟨⟨_, _, rfl, rfl, Wk.nil⟩, ?_⟩)) (by repeat' (first | exact True.intro | refine ⟨⟨_, _, _, rfl, rfl, rfl, WkO.rfl⟩, ?_⟩ | refine HeapOK.acc rfl rfl ?_)))
  · intro hm
    refine M.q (M.go rfl ?_)
    have h7 := incB_len l 0 (by decide) hm
    refine M.dec rfl (fun h => ?_) (fun h => ?_)
    · refine M.go rfl ?_
      refine M.ret (M.go rfl (M.done (finQ.ret [] rfl rfl rfl (Wk.b1 ?_) (by repeat' (first | exact True.intro | refine ⟨⟨_, _, _, rfl, rfl, rfl, WkO.rfl⟩, ?_⟩ | refine HeapOK.acc rfl rfl ?_)))))
      rw [mayI, hm, inPl]
      rw [inPl] at h
      have g : ¬ l = [] := by rintro rfl; simp at h
      cases l with
      | nil => exact absurd rfl g
      | cons a l => simp at h7 ⊢; omega
    · refine M.go rfl ?_
      refine M.ret (M.go rfl (M.done (finQ.ret [] rfl rfl rfl (Wk.of ?_) (by repeat' (first | exact True.intro | refine ⟨⟨_, _, _, rfl, rfl, rfl, WkO.rfl⟩, ?_⟩ | refine HeapOK.acc rfl rfl ?_)))))
      rw [inPl] at h
      have g : l = [] := List.eq_nil_of_length_eq_zero (by omega)
      rw [g]; rfl
  · intro hm
    refine M.q (M.go rfl ?_)
    rw [mayI, hm]
    exact M.done (finQ.ret [] rfl rfl rfl (by first | exact Wk.rfl | exact Wk.uncap | exact Wk.nil | exact Wk.b1 rfl | exact Wk.t2 Wk.rfl (Wk.b1 rfl)) (by repeat' (first | exact True.intro | refine ⟨⟨_, _, _, rfl, rfl, rfl, WkO.rfl⟩, ?_⟩ | refine HeapOK.acc rfl rfl ?_)))
def nI (l : List Nat) : List Int := l.map fun (b : Nat) => (b : Int)
def selI (l : List Int) : List Int := if mayI l = true then l else []
def okY (l : List Nat) : Prop := l.length ≤ 100000000000 ∧ ∀ b ∈ l, b < 256
theorem byPl (l : List Nat) : (byP l).length = l.length := by simp [byP]
noncomputable def lIds : {F : LF // lowerF Try.prog 124 = some F} := ⟨_, rfl⟩
theorem ids_loop (z : Bool) (c : Option Nat) (l : List Nat) (hl : okY l) (Q : QX) (hq : Q (.exit 0) [(3, accV 0 1 (inP (nI (l.take 8))))] ⟨[(0, accO 1 (inP (nI (l.take 8))))], 1⟩) :
    ∀ (rest pre : List Nat), l = pre ++ rest → pre.length ≤ 8 → XH Try.prog base lIds.1.n 0 (lIds.1.c.lp 0) [(0, .c (.p (.tz z 1 (byP l) c))), (4, .c (.p (.int .i64 pre.length))), (3, accV 0 1 (inP (nI pre)))] ⟨[(0, accO 1 (inP (nI pre)))], 1⟩ Q := by
  intro rest
  have out : ∀ pre : List Nat, l.take 8 = pre → Q (.exit 0) [(3, accV 0 1 (inP (nI pre)))] ⟨[(0, accO 1 (inP (nI pre)))], 1⟩ := fun pre h => by rw [← h]; exact hq
  induction rest with
  | nil =>
    intro pre hp h8
    have hlen : (byP l).length = pre.length := by rw [hp, byPl]; simp
    refine M.round (M.go rfl ?_)
    refine M.dec rfl (fun hc => absurd hc (by rw [hlen]; omega)) (fun hc => ?_)
    refine M.go rfl ?_
    refine M.ren [(0, 0)] ?_ trivial rfl (by repeat' (first | exact True.intro | refine ⟨⟨_, _, rfl, rfl, Wk.rfl⟩, ?_⟩ | refine ⟨⟨_, _, accV_ren rfl, rfl, Wk.rfl⟩, ?_⟩ | refine ⟨⟨_, _, accV_ren rfl, rfl, Wk.acc0⟩, ?_⟩ | refine ⟨⟨_, _, rfl, rfl, Wk.uncap⟩, ?_⟩ | refine ⟨⟨_, _, rfl, rfl, Wk.nil⟩, ?_⟩)) (by repeat' (first | exact True.intro | refine ⟨⟨_, _, _, rfl, rfl, rfl, WkO.rfl⟩, ?_⟩ | refine HeapOK.acc rfl rfl ?_)) (e' := [(3, accV 0 1 (inP (nI pre)))]) (h' := ⟨[(0, accO 1 (inP (nI pre)))], 1⟩)
    exact M.exit (M.go rfl (M.done (out pre (by rw [hp, List.append_nil, List.take_of_length_le h8]))))
  | cons b rest ih =>
    intro pre hp h8
    have hbl : b < 256 := hl.2 b (by rw [hp]; simp)
    have hlen : (byP l).length = pre.length + (rest.length + 1) := by rw [hp, byPl]; simp
    refine M.round (M.go rfl ?_)
    refine M.dec rfl (fun hc => ?_) (fun hc => absurd (by rw [hlen]; omega) hc)
    refine M.go rfl ?_
    refine M.cond rfl (fun hc => ?_) (fun hc => ?_)
    · refine M.go rfl ?_
      have ih' := ih (pre ++ [b]) (by rw [hp]; simp) (by simp; omega)
      rw [show inP (nI (pre ++ [b])) = inP (nI pre) ++ [.int .i64 b] by simp [nI, inP]] at ih'
      have hu : (byP l)[((pre.length : Int)).toNat]? = some (.int .u8 b) := by rw [hp]; exact at_app _ _ _ _
      refine M.op trivial (SOp.ia rfl rfl (by omega) hu) ?_
      refine M.op trivial (SOp.ld1e rfl hu rfl rfl rfl) ?_
      refine M.go rfl ?_
      rw [show IntKind.i64.wrap (b : Int) = b from wr64 (by omega) (by omega)]
      refine M.acc trivial rfl rfl rfl (.own rfl rfl) (by simp) (by simp [nI, inP]; omega) ?_
      refine M.go rfl ?_
      rw [show IntKind.i64.wrap ((pre.length : Int) + 1) = ((pre ++ [b]).length : Int) by rw [wr64 (by omega) (by omega)]; simp]
      exact M.again (XH.ren [(0, 2)] ih' rfl (by repeat' (first | exact True.intro | refine ⟨⟨_, _, rfl, rfl, Wk.rfl⟩, ?_⟩ | refine ⟨⟨_, _, accV_ren rfl, rfl, Wk.rfl⟩, ?_⟩ | refine ⟨⟨_, _, accV_ren rfl, rfl, Wk.acc0⟩, ?_⟩ | refine ⟨⟨_, _, rfl, rfl, Wk.uncap⟩, ?_⟩ | refine ⟨⟨_, _, rfl, rfl, Wk.nil⟩, ?_⟩)) (by repeat' (first | exact True.intro | refine ⟨⟨_, _, _, rfl, rfl, rfl, WkO.rfl⟩, ?_⟩ | refine HeapOK.acc rfl rfl ?_)))
    · refine M.ren [(0, 0)] ?_ trivial rfl (by repeat' (first | exact True.intro | refine ⟨⟨_, _, rfl, rfl, Wk.rfl⟩, ?_⟩ | refine ⟨⟨_, _, accV_ren rfl, rfl, Wk.rfl⟩, ?_⟩ | refine ⟨⟨_, _, accV_ren rfl, rfl, Wk.acc0⟩, ?_⟩ | refine ⟨⟨_, _, rfl, rfl, Wk.uncap⟩, ?_⟩ | refine ⟨⟨_, _, rfl, rfl, Wk.nil⟩, ?_⟩)) (by repeat' (first | exact True.intro | refine ⟨⟨_, _, _, rfl, rfl, rfl, WkO.rfl⟩, ?_⟩ | refine HeapOK.acc rfl rfl ?_)) (e' := [(3, accV 0 1 (inP (nI pre)))]) (h' := ⟨[(0, accO 1 (inP (nI pre)))], 1⟩)
      exact M.exit (M.go rfl (M.done (out pre (by rw [hp, List.take_append_of_le_length (by omega), List.take_of_length_le (by omega)]))))
theorem may8 (l : List Nat) : selI (nI (l.take 8)) = selI (nI l) := by
  by_cases h : l.length ≤ 8
  · rw [List.take_of_length_le h]
  · have key : ∀ m : List Nat, 7 < m.length → selI (nI m) = [] := fun m hm => by
      rw [selI, if_neg]
      intro hi
      simp only [mayI, Bool.and_eq_true] at hi
      have := incB_len (nI m) 0 (by decide) hi.1
      simp [nI] at this
      omega
    rw [key _ (by rw [List.length_take]; omega), key _ (by omega)]
theorem ids_spec (z : Bool) (c : Option Nat) (l : List Nat) (hl : okY l) : CallS Try.prog base 124 [.c (.p (.tz z 1 (byP l) c))] ⟨[], 0⟩ (.c (.p (.tz true 1 (inP (selI (nI l))) none))) ⟨[], 0⟩ := by
  rw [← may8]
  refine CallS.of noNG lIds.2 rfl (M.start (M.go rfl ?_))
  refine M.loop (XH.ren [(0, 0)] (ids_loop z c l hl _ ?_ l [] rfl (by simp)) rfl (by repeat' (first | exact True.intro | refine ⟨⟨_, _, rfl, rfl, Wk.rfl⟩, ?_⟩ | refine ⟨⟨_, _, accV_ren rfl, rfl, Wk.rfl⟩, ?_⟩ | refine ⟨⟨_, _, accV_ren rfl, rfl, Wk.acc0⟩, ?_⟩ | refine ⟨⟨_, _, rfl, rfl, Wk.uncap⟩, ?_⟩ | refine ⟨⟨_, _, rfl, rfl, Wk.nil⟩, ?_⟩)) (by repeat' (first | exact True.intro | refine ⟨⟨_, _, _, rfl, rfl, rfl, WkO.rfl⟩, ?_⟩ | refine HeapOK.acc rfl rfl ?_)))
  refine M.q (M.goN 2 rfl ?_)
  refine M.accF (i := 3) rfl rfl ?_
  refine M.go rfl ?_
  refine M.use0 trivial (mbr_spec true none (nI (l.take 8)) (by simp [nI]; omega)) rfl rfl rfl ?_
  refine M.go rfl ?_
  refine M.condB rfl (fun h => ?_) (fun h => ?_)
  · refine M.go rfl ?_
    rw [selI, if_neg (by simpa using h)]
    exact M.ret (M.go rfl (M.done (finQ.ret [] rfl rfl rfl Wk.nil (by repeat' (first | exact True.intro | refine ⟨⟨_, _, _, rfl, rfl, rfl, WkO.rfl⟩, ?_⟩ | refine HeapOK.acc rfl rfl ?_)))))
  · refine M.go rfl ?_
    rw [selI, if_pos (by simpa using h)]
    exact M.ret (M.go rfl (M.done (finQ.ret [] rfl rfl rfl (by first | exact Wk.rfl | exact Wk.uncap | exact Wk.nil | exact Wk.b1 rfl | exact Wk.t2 Wk.rfl (Wk.b1 rfl)) (by repeat' (first | exact True.intro | refine ⟨⟨_, _, _, rfl, rfl, rfl, WkO.rfl⟩, ?_⟩ | refine HeapOK.acc rfl rfl ?_)))))
end Go.Proofs.Yteegdhfekemhmaa

/- delphiref22's Log: its last index, a term. -/
namespace Go.Proofs.Yteegdhfekemhmaa
open Go.RowKit Sim Go Sym
set_option maxRecDepth 100000
set_option linter.unusedVariables false
set_option linter.unusedSimpArgs false
variable {base : Nat}
noncomputable def lRLast : {F : LF // lowerF Try.prog 105 = some F} := ⟨_, rfl⟩
theorem RLast_spec (L : PLog) (hL : L.ok) : CallS Try.prog base 105 [.c (.ptr 0 0)] L.h (.c (.p (.int .i64 L.last))) L.h := by
  refine CallS.of noNG lRLast.2 rfl (M.start (M.go rfl ?_))
  refine M.regD (MD.go rfl (MD.nil mixed (Fnl.nodup rfl) (M.go rfl ?_)))
  rw [show IntKind.i64.wrap (L.S.ix + ((entP L.E).length : Int)) = L.last by rw [entP_len]; exact wr64 (by have := hL.ix; omega) hL.top]
  exact M.ret (M.go rfl (M.done (finQ.ret [(0, 0)] rfl rfl rfl (by first | exact Wk.rfl | exact Wk.uncap | exact Wk.nil | exact Wk.b1 rfl | exact Wk.t2 Wk.rfl (Wk.b1 rfl)) (by repeat' (first | exact True.intro | refine ⟨⟨_, _, _, rfl, rfl, rfl, WkO.rfl⟩, ?_⟩ | refine HeapOK.acc rfl rfl ?_)))))
noncomputable def lRTerm : {F : LF // lowerF Try.prog 107 = some F} := ⟨_, rfl⟩
theorem RTerm_spec (L : PLog) (hL : L.ok) (i : Int) (hi : I64 i) : CallS Try.prog base 107 [.c (.ptr 0 0), .c (.p (.int .i64 i))] L.h (.tup [.c (.p (.int .i64 (L.term i).1)), .c (.p (.bs (L.term i).2))]) L.h := by
  refine CallS.of noNG lRTerm.2 rfl (M.start (M.go rfl ?_))
  refine M.cond rfl (fun h1 => ?_) (fun h1 => ?_)
  · refine M.go rfl ?_
    rw [show L.term i = (L.S.tm, true) from if_pos h1]
    exact M.ret (M.go rfl (M.done (finQ.ret [(0, 0)] rfl rfl rfl (by first | exact Wk.rfl | exact Wk.uncap | exact Wk.nil | exact Wk.b1 rfl | exact Wk.t2 Wk.rfl (Wk.b1 rfl)) (by repeat' (first | exact True.intro | refine ⟨⟨_, _, _, rfl, rfl, rfl, WkO.rfl⟩, ?_⟩ | refine HeapOK.acc rfl rfl ?_)))))
  · refine M.go rfl ?_
    have e1 : L.term i = if i ≤ L.S.ix ∨ L.last < i then (0, false) else ((L.at' i).tm, true) := if_neg h1
    refine M.dec rfl (fun h2 => ?_) (fun h2 => ?_)
    · refine M.go rfl ?_
      rw [e1, if_pos (.inl (by omega))]
      exact M.ret (M.go rfl (M.done (finQ.ret [(0, 0)] rfl rfl rfl (by first | exact Wk.rfl | exact Wk.uncap | exact Wk.nil | exact Wk.b1 rfl | exact Wk.t2 Wk.rfl (Wk.b1 rfl)) (by repeat' (first | exact True.intro | refine ⟨⟨_, _, _, rfl, rfl, rfl, WkO.rfl⟩, ?_⟩ | refine HeapOK.acc rfl rfl ?_)))))
    · refine M.go rfl ?_
      refine M.use (by first | exact True.intro | exact rfl) (RLast_spec L hL) [(0, 0)] rfl rfl rfl (by repeat' (first | exact True.intro | refine ⟨⟨_, _, _, rfl, rfl, rfl, WkO.rfl⟩, ?_⟩ | refine HeapOK.acc rfl rfl ?_)) rfl rfl ?_
      refine M.go rfl ?_
      refine M.cond rfl (fun h3 => ?_) (fun h3 => ?_)
      · refine M.go rfl ?_
        rw [e1, if_pos (.inr h3)]
        exact M.ret (M.go rfl (M.done (finQ.ret [(0, 0)] rfl rfl rfl (by first | exact Wk.rfl | exact Wk.uncap | exact Wk.nil | exact Wk.b1 rfl | exact Wk.t2 Wk.rfl (Wk.b1 rfl)) (by repeat' (first | exact True.intro | refine ⟨⟨_, _, _, rfl, rfl, rfl, WkO.rfl⟩, ?_⟩ | refine HeapOK.acc rfl rfl ?_)))))
      · refine M.go rfl ?_
        rw [e1, if_neg (by omega)]
        obtain ⟨j, h4, h5, h6, h7⟩ := PLog.at_get (L := L) (i := i) (by omega) (by omega)
        have hw : IntKind.i64.wrap (IntKind.i64.wrap (i - L.S.ix) - 1) = i - L.S.ix - 1 := by
          rw [wr64 (n := i - L.S.ix) (by omega) (by have := hL.ix; have := hi.2; omega), wr64 (by omega) (by have := hL.ix; have := hi.2; omega)]
        refine M.regD (MD.go rfl ?_)
        rw [hw]
        refine MD.op trivial (SOp.ia rfl rfl (by omega) h7) (MD.go rfl ?_)
        refine MD.op trivial (SOp.ld1e rfl h7 rfl rfl rfl) (MD.go rfl (MD.nil mixed (Fnl.nodup rfl) (M.go rfl ?_)))
        exact M.ret (M.go rfl (M.done (finQ.ret [(0, 0)] rfl rfl rfl (by first | exact Wk.rfl | exact Wk.uncap | exact Wk.nil | exact Wk.b1 rfl | exact Wk.t2 Wk.rfl (Wk.b1 rfl)) (by repeat' (first | exact True.intro | refine ⟨⟨_, _, _, rfl, rfl, rfl, WkO.rfl⟩, ?_⟩ | refine HeapOK.acc rfl rfl ?_)))))
end Go.Proofs.Yteegdhfekemhmaa

/- delphiref22.Good: which entries may stand behind one another. -/
namespace Go.Proofs.Yteegdhfekemhmaa
open Go.RowKit Sim Go Sym
set_option maxRecDepth 100000
set_option linter.unusedVariables false
set_option linter.unusedSimpArgs false
variable {base : Nat}
noncomputable def lGood : {F : LF // lowerF Try.prog 104 = some F} := ⟨_, rfl⟩
def entG (i t : Int) (e : Ent) : Bool := !(!decide (e.ix = i) || (decide (e.tm < 1) || (decide (e.tm < t) || (decide (e.kd < 1) || (decide (3 < e.kd) || (decide (e.kd = 3) && (selI (nI e.d)).isEmpty))))))
def goodF : Int → Int → List Ent → Bool
  | _, _, [] => true
  | i, t, e :: l => entG (IntKind.i64.wrap (i + 1)) t e && goodF (IntKind.i64.wrap (i + 1)) e.tm l
def goodE (z : Bool) (c : Option Nat) (l pre : List Ent) (i t : Int) : Env := [(1, .c (.p (.int .i64 i))), (2, .c (.p (.int .i64 t))), (0, .c (.p (.tz z 4 (entP l) c))), (7, .c (.p (.int .i64 pre.length)))]
theorem good_loop (z : Bool) (c : Option Nat) (l : List Ent) (hl : l.length ≤ 100000000000) (hok : ∀ e ∈ l, e.ok) (Q : QX) :
    ∀ (rest pre : List Ent) (i t : Int), l = pre ++ rest → I64 i → (goodF i t rest = true → Q (.exit 0) [] ⟨[], 0⟩) → (goodF i t rest = false → Q .ret [(6, .c (.p (.bool false)))] ⟨[], 0⟩) → XH Try.prog base lGood.1.n 0 (lGood.1.c.lp 0) (goodE z c l pre i t) ⟨[], 0⟩ Q := by
  intro rest
  induction rest with
  | nil =>
    intro pre i t hp hi hq hr
    refine M.round (M.go rfl ?_)
    simp at hp
    subst hp
    refine M.cond rfl (fun hc => ?_) (fun hc => ?_)
    · simp [entP] at hc
    · refine M.ren [] ?_ trivial rfl (by repeat' (first | exact True.intro | refine ⟨⟨_, _, rfl, rfl, Wk.rfl⟩, ?_⟩ | refine ⟨⟨_, _, accV_ren rfl, rfl, Wk.rfl⟩, ?_⟩ | refine ⟨⟨_, _, accV_ren rfl, rfl, Wk.acc0⟩, ?_⟩ | refine ⟨⟨_, _, rfl, rfl, Wk.uncap⟩, ?_⟩ | refine ⟨⟨_, _, rfl, rfl, Wk.nil⟩, ?_⟩)) (by repeat' (first | exact True.intro | refine ⟨⟨_, _, _, rfl, rfl, rfl, WkO.rfl⟩, ?_⟩ | refine HeapOK.acc rfl rfl ?_)) (e' := []) (h' := ⟨[], 0⟩)
      exact M.exit (M.go rfl (M.done (hq rfl)))
  | cons e rest ih =>
    intro pre i t hp hi hq hr
    have he : e.ok := hok e (by rw [hp]; simp)
    have hlen : (entP l).length = pre.length + (rest.length + 1) := by rw [hp]; simp [entP]
    have hll : pre.length + rest.length < 100000000000 := by rw [hp] at hl; simp at hl; omega
    have fin : goodF i t (e :: rest) = false → M Try.prog base lGood.1.n 0 (.out .ret) [] [(6, .c (.p (.bool false)))] ⟨[], 0⟩ Q := fun hm => M.done (hr hm)
    refine M.round (M.go rfl ?_)
    refine M.cond rfl (fun hc => ?_) (fun hc => ?_)
    · refine M.go rfl ?_
      have hu : (entP l)[((pre.length : Int)).toNat]? = some e.pc := by rw [hp]; exact at_app _ _ _ _
      refine M.op trivial (SOp.ia rfl rfl (by omega) hu) ?_
      refine M.op trivial (SOp.ldne rfl hu rfl rfl rfl) ?_
      refine M.go rfl ?_
      · obtain ⟨T, hT⟩ : ∃ T, T = entG (IntKind.i64.wrap (i + 1)) t e := ⟨_, rfl⟩
        have hm : goodF i t (e :: rest) = (T && goodF (IntKind.i64.wrap (i + 1)) e.tm rest) := by rw [goodF, hT]
        refine M.mid ((55, .c (.p (.bs (!T)))) :: (8, .c (.ptr 0 0)) :: goodE z c l pre i t) ⟨[(0, some (.row (e.cs.map XC.p) true))], 1⟩ ?_ ?_
        · refine M.decN rfl (fun h1 => ?_) (fun h1 => ?_)
          · refine M.go rfl (M.end [(0, 0)] rfl ⟨⟨_, _, rfl, rfl, Wk.b1 (by rw [hT]; simp [entG, h1])⟩, (by repeat' (first | exact True.intro | refine ⟨⟨_, _, rfl, rfl, Wk.rfl⟩, ?_⟩ | refine ⟨⟨_, _, accV_ren rfl, rfl, Wk.rfl⟩, ?_⟩ | refine ⟨⟨_, _, accV_ren rfl, rfl, Wk.acc0⟩, ?_⟩ | refine ⟨⟨_, _, rfl, rfl, Wk.uncap⟩, ?_⟩ | refine ⟨⟨_, _, rfl, rfl, Wk.nil⟩, ?_⟩))⟩ (by repeat' (first | exact True.intro | refine ⟨⟨_, _, _, rfl, rfl, rfl, WkO.rfl⟩, ?_⟩ | refine HeapOK.acc rfl rfl ?_)))
          · refine M.go rfl ?_
            refine M.dec rfl (fun h2 => ?_) (fun h2 => ?_)
            · refine M.go rfl (M.end [(0, 0)] rfl ⟨⟨_, _, rfl, rfl, Wk.b1 (by rw [hT]; simp [entG, h2])⟩, (by repeat' (first | exact True.intro | refine ⟨⟨_, _, rfl, rfl, Wk.rfl⟩, ?_⟩ | refine ⟨⟨_, _, accV_ren rfl, rfl, Wk.rfl⟩, ?_⟩ | refine ⟨⟨_, _, accV_ren rfl, rfl, Wk.acc0⟩, ?_⟩ | refine ⟨⟨_, _, rfl, rfl, Wk.uncap⟩, ?_⟩ | refine ⟨⟨_, _, rfl, rfl, Wk.nil⟩, ?_⟩))⟩ (by repeat' (first | exact True.intro | refine ⟨⟨_, _, _, rfl, rfl, rfl, WkO.rfl⟩, ?_⟩ | refine HeapOK.acc rfl rfl ?_)))
            · refine M.go rfl ?_
              refine M.dec rfl (fun h3 => ?_) (fun h3 => ?_)
              · refine M.go rfl (M.end [(0, 0)] rfl ⟨⟨_, _, rfl, rfl, Wk.b1 (by rw [hT]; simp [entG, h3])⟩, (by repeat' (first | exact True.intro | refine ⟨⟨_, _, rfl, rfl, Wk.rfl⟩, ?_⟩ | refine ⟨⟨_, _, accV_ren rfl, rfl, Wk.rfl⟩, ?_⟩ | refine ⟨⟨_, _, accV_ren rfl, rfl, Wk.acc0⟩, ?_⟩ | refine ⟨⟨_, _, rfl, rfl, Wk.uncap⟩, ?_⟩ | refine ⟨⟨_, _, rfl, rfl, Wk.nil⟩, ?_⟩))⟩ (by repeat' (first | exact True.intro | refine ⟨⟨_, _, _, rfl, rfl, rfl, WkO.rfl⟩, ?_⟩ | refine HeapOK.acc rfl rfl ?_)))
              · refine M.go rfl ?_
                refine M.dec rfl (fun h4 => ?_) (fun h4 => ?_)
                · refine M.go rfl (M.end [(0, 0)] rfl ⟨⟨_, _, rfl, rfl, Wk.b1 (by rw [hT]; simp [entG, h4])⟩, (by repeat' (first | exact True.intro | refine ⟨⟨_, _, rfl, rfl, Wk.rfl⟩, ?_⟩ | refine ⟨⟨_, _, accV_ren rfl, rfl, Wk.rfl⟩, ?_⟩ | refine ⟨⟨_, _, accV_ren rfl, rfl, Wk.acc0⟩, ?_⟩ | refine ⟨⟨_, _, rfl, rfl, Wk.uncap⟩, ?_⟩ | refine ⟨⟨_, _, rfl, rfl, Wk.nil⟩, ?_⟩))⟩ (by repeat' (first | exact True.intro | refine ⟨⟨_, _, _, rfl, rfl, rfl, WkO.rfl⟩, ?_⟩ | refine HeapOK.acc rfl rfl ?_)))
                · refine M.go rfl ?_
                  refine M.dec rfl (fun h5 => ?_) (fun h5 => ?_)
                  · refine M.go rfl (M.end [(0, 0)] rfl ⟨⟨_, _, rfl, rfl, Wk.b1 (by rw [hT]; simp [entG, h5])⟩, (by repeat' (first | exact True.intro | refine ⟨⟨_, _, rfl, rfl, Wk.rfl⟩, ?_⟩ | refine ⟨⟨_, _, accV_ren rfl, rfl, Wk.rfl⟩, ?_⟩ | refine ⟨⟨_, _, accV_ren rfl, rfl, Wk.acc0⟩, ?_⟩ | refine ⟨⟨_, _, rfl, rfl, Wk.uncap⟩, ?_⟩ | refine ⟨⟨_, _, rfl, rfl, Wk.nil⟩, ?_⟩))⟩ (by repeat' (first | exact True.intro | refine ⟨⟨_, _, _, rfl, rfl, rfl, WkO.rfl⟩, ?_⟩ | refine HeapOK.acc rfl rfl ?_)))
                  · refine M.go rfl ?_
                    refine M.dec rfl (fun h6 => ?_) (fun h6 => ?_)
                    · refine M.go rfl ?_
                      refine M.use0 rfl (ids_spec e.z e.c e.d he.d) rfl rfl rfl ?_
                      refine M.go rfl (M.end [(0, 0)] rfl ⟨⟨_, _, rfl, rfl, Wk.b2 (by rw [hT]; simp [entG, h1, h2, h3, h4, h5, h6, inP])⟩, (by repeat' (first | exact True.intro | refine ⟨⟨_, _, rfl, rfl, Wk.rfl⟩, ?_⟩ | refine ⟨⟨_, _, accV_ren rfl, rfl, Wk.rfl⟩, ?_⟩ | refine ⟨⟨_, _, accV_ren rfl, rfl, Wk.acc0⟩, ?_⟩ | refine ⟨⟨_, _, rfl, rfl, Wk.uncap⟩, ?_⟩ | refine ⟨⟨_, _, rfl, rfl, Wk.nil⟩, ?_⟩))⟩ (by repeat' (first | exact True.intro | refine ⟨⟨_, _, _, rfl, rfl, rfl, WkO.rfl⟩, ?_⟩ | refine HeapOK.acc rfl rfl ?_)))
                    · refine M.go rfl (M.end [(0, 0)] rfl ⟨⟨_, _, rfl, rfl, Wk.b1 (by rw [hT]; simp [entG, h1, h2, h3, h4, h5, h6])⟩, (by repeat' (first | exact True.intro | refine ⟨⟨_, _, rfl, rfl, Wk.rfl⟩, ?_⟩ | refine ⟨⟨_, _, accV_ren rfl, rfl, Wk.rfl⟩, ?_⟩ | refine ⟨⟨_, _, accV_ren rfl, rfl, Wk.acc0⟩, ?_⟩ | refine ⟨⟨_, _, rfl, rfl, Wk.uncap⟩, ?_⟩ | refine ⟨⟨_, _, rfl, rfl, Wk.nil⟩, ?_⟩))⟩ (by repeat' (first | exact True.intro | refine ⟨⟨_, _, _, rfl, rfl, rfl, WkO.rfl⟩, ?_⟩ | refine HeapOK.acc rfl rfl ?_)))
        · refine M.go rfl ?_
          refine M.condB rfl (fun hc => ?_) (fun hc => ?_)
          · refine M.go rfl ?_
            refine M.ren [] ?_ trivial rfl (by repeat' (first | exact True.intro | refine ⟨⟨_, _, rfl, rfl, Wk.rfl⟩, ?_⟩ | refine ⟨⟨_, _, accV_ren rfl, rfl, Wk.rfl⟩, ?_⟩ | refine ⟨⟨_, _, accV_ren rfl, rfl, Wk.acc0⟩, ?_⟩ | refine ⟨⟨_, _, rfl, rfl, Wk.uncap⟩, ?_⟩ | refine ⟨⟨_, _, rfl, rfl, Wk.nil⟩, ?_⟩)) (by repeat' (first | exact True.intro | refine ⟨⟨_, _, _, rfl, rfl, rfl, WkO.rfl⟩, ?_⟩ | refine HeapOK.acc rfl rfl ?_)) (e' := [(6, .c (.p (.bool false)))]) (h' := ⟨[], 0⟩)
            exact M.ret (M.go rfl (M.done (hr (by rw [hm]; rw [Bool.not_eq_true'] at hc; rw [hc]; rfl))))
          · refine M.go rfl ?_
            have hbb : T = true := by simpa using hc
            have h7 : e.ix = IntKind.i64.wrap (i + 1) := by rw [hT] at hbb; simp [entG] at hbb; exact hbb.1
            rw [hm, hbb, Bool.true_and, ← h7] at hq hr
            refine M.regD (MD.go rfl (MD.nil mixed (Fnl.nodup rfl) (M.go rfl ?_)))
            have ih' := ih (pre ++ [e]) e.ix e.tm (by rw [hp]; simp) he.ix hq hr
            have hw2 : IntKind.i64.wrap ((pre.length : Int) + 1) = ((pre ++ [e]).length : Int) := by rw [wr64 (by omega) (by omega)]; simp
            rw [hw2]
            exact M.again (XH.ren [] ih' rfl (by repeat' (first | exact True.intro | refine ⟨⟨_, _, rfl, rfl, Wk.rfl⟩, ?_⟩ | refine ⟨⟨_, _, accV_ren rfl, rfl, Wk.rfl⟩, ?_⟩ | refine ⟨⟨_, _, accV_ren rfl, rfl, Wk.acc0⟩, ?_⟩ | refine ⟨⟨_, _, rfl, rfl, Wk.uncap⟩, ?_⟩ | refine ⟨⟨_, _, rfl, rfl, Wk.nil⟩, ?_⟩)) (by repeat' (first | exact True.intro | refine ⟨⟨_, _, _, rfl, rfl, rfl, WkO.rfl⟩, ?_⟩ | refine HeapOK.acc rfl rfl ?_)))
    · rw [hlen] at hc; omega
theorem good_spec (z : Bool) (c : Option Nat) (l : List Ent) (i t : Int) (hl : l.length ≤ 100000000000) (hok : ∀ e ∈ l, e.ok) (hi : I64 i) : CallS Try.prog base 104 [.c (.p (.tz z 4 (entP l) c)), .c (.p (.int .i64 i)), .c (.p (.int .i64 t))] ⟨[], 0⟩ (.c (.p (.bs (goodF i t l)))) ⟨[], 0⟩ := by
  refine CallS.of noNG lGood.2 rfl (M.start (M.go rfl ?_))
  refine M.loop (XH.ren [] (good_loop z c l hl hok _ l [] i t rfl hi ?_ ?_) rfl (by repeat' (first | exact True.intro | refine ⟨⟨_, _, rfl, rfl, Wk.rfl⟩, ?_⟩ | refine ⟨⟨_, _, accV_ren rfl, rfl, Wk.rfl⟩, ?_⟩ | refine ⟨⟨_, _, accV_ren rfl, rfl, Wk.acc0⟩, ?_⟩ | refine ⟨⟨_, _, rfl, rfl, Wk.uncap⟩, ?_⟩ | refine ⟨⟨_, _, rfl, rfl, Wk.nil⟩, ?_⟩)) (by repeat' (first | exact True.intro | refine ⟨⟨_, _, _, rfl, rfl, rfl, WkO.rfl⟩, ?_⟩ | refine HeapOK.acc rfl rfl ?_)))
  · intro hm
    refine M.q (M.go rfl ?_)
    exact M.ret (M.go rfl (M.done (finQ.ret [] rfl rfl rfl (Wk.b1 hm) (by repeat' (first | exact True.intro | refine ⟨⟨_, _, _, rfl, rfl, rfl, WkO.rfl⟩, ?_⟩ | refine HeapOK.acc rfl rfl ?_)))))
  · intro hm
    refine M.q (M.go rfl ?_)
    exact M.done (finQ.ret [] rfl rfl rfl (Wk.b1 hm) (by repeat' (first | exact True.intro | refine ⟨⟨_, _, _, rfl, rfl, rfl, WkO.rfl⟩, ?_⟩ | refine HeapOK.acc rfl rfl ?_)))
end Go.Proofs.Yteegdhfekemhmaa

/- delphiref22.NewLog. -/
namespace Go.Proofs.Yteegdhfekemhmaa
open Go.RowKit Sim Go Sym
set_option maxRecDepth 100000
set_option linter.unusedVariables false
set_option linter.unusedSimpArgs false
variable {base : Nat}
noncomputable def lRNew : {F : LF // lowerF Try.prog 52 = some F} := ⟨_, rfl⟩
def rnewOk (s : Snp) (l : List Ent) : Bool := !(decide (s.ix < 0) || (decide (s.tm < 0) || !goodF s.ix s.tm l))
theorem RNew_no (s : Snp) (hs : s.ok) (z : Bool) (c : Option Nat) (l : List Ent) (hl : l.length ≤ 10000000000) (hok : ∀ e ∈ l, e.ok) (hno : rnewOk s l = false) : CallS Try.prog base 52 [s.v, .c (.p (.tz z 4 (entP l) c))] ⟨[], 0⟩ (.c (.p .nilp)) ⟨[], 0⟩ := by
  refine CallS.of noNG lRNew.2 rfl (M.start (M.go rfl ?_))
  refine M.dec rfl (fun h1 => ?_) (fun h1 => ?_)
  · refine M.go rfl ?_
    exact M.ret (M.go rfl (M.done (finQ.ret [] rfl rfl rfl (by first | exact Wk.rfl | exact Wk.uncap | exact Wk.nil | exact Wk.b1 rfl | exact Wk.t2 Wk.rfl (Wk.b1 rfl)) (by repeat' (first | exact True.intro | refine ⟨⟨_, _, _, rfl, rfl, rfl, WkO.rfl⟩, ?_⟩ | refine HeapOK.acc rfl rfl ?_)))))
  · refine M.go rfl ?_
    refine M.dec rfl (fun h2 => ?_) (fun h2 => ?_)
    · refine M.go rfl ?_
      exact M.ret (M.go rfl (M.done (finQ.ret [] rfl rfl rfl (by first | exact Wk.rfl | exact Wk.uncap | exact Wk.nil | exact Wk.b1 rfl | exact Wk.t2 Wk.rfl (Wk.b1 rfl)) (by repeat' (first | exact True.intro | refine ⟨⟨_, _, _, rfl, rfl, rfl, WkO.rfl⟩, ?_⟩ | refine HeapOK.acc rfl rfl ?_)))))
    · refine M.go rfl ?_
      refine M.use0 rfl (good_spec z c l s.ix s.tm (by omega) hok hs.ix) rfl rfl rfl ?_
      refine M.go rfl ?_
      have hm : goodF s.ix s.tm l = false := by simpa [rnewOk, h1, h2] using hno
      refine M.condB rfl (fun h3 => ?_) (fun h3 => ?_)
      · refine M.go rfl ?_
        exact M.ret (M.go rfl (M.done (finQ.ret [] rfl rfl rfl (by first | exact Wk.rfl | exact Wk.uncap | exact Wk.nil | exact Wk.b1 rfl | exact Wk.t2 Wk.rfl (Wk.b1 rfl)) (by repeat' (first | exact True.intro | refine ⟨⟨_, _, _, rfl, rfl, rfl, WkO.rfl⟩, ?_⟩ | refine HeapOK.acc rfl rfl ?_)))))
      · rw [hm] at h3; simp at h3
theorem RNew_yes (s : Snp) (hs : s.ok) (z : Bool) (c : Option Nat) (l : List Ent) (hl : l.length ≤ 10000000000) (hok : ∀ e ∈ l, e.ok) (hno : rnewOk s l = true) : CallS Try.prog base 52 [s.v, .c (.p (.tz z 4 (entP l) c))] ⟨[], 0⟩ (.c (.ptr 0 0)) (PLog.h ⟨s, l, true, none⟩) := by
  refine CallS.of noNG lRNew.2 rfl (M.start (M.go rfl ?_))
  have h1 : ¬ s.ix < 0 := fun h => by simp [rnewOk, h] at hno
  have h2 : ¬ s.tm < 0 := fun h => by simp [rnewOk, h] at hno
  have hm : goodF s.ix s.tm l = true := by simpa [rnewOk, h1, h2] using hno
  refine M.dec rfl (fun h => absurd h h1) (fun _ => ?_)
  refine M.go rfl ?_
  refine M.dec rfl (fun h => absurd h h2) (fun _ => ?_)
  refine M.go rfl ?_
  refine M.use0 rfl (good_spec z c l s.ix s.tm (by omega) hok hs.ix) rfl rfl rfl ?_
  refine M.go rfl ?_
  refine M.condB rfl (fun h3 => ?_) (fun _ => ?_)
  · rw [hm] at h3; simp at h3
  refine M.go rfl (M.regF (MF.go rfl ?_))
  cases l with
  | nil =>
    refine MF.op trivial (SOp.app0 rfl rfl .tz (.inr ⟨_, _, _, _, rfl⟩)) (MF.go rfl (MF.nil mixed (Fnl.nodup rfl) rfl ⟨⟨stepX_ok rfl, trivial⟩, trivial⟩ (M.go rfl ?_)))
    exact M.ret (M.go rfl (M.done (finQ.ret [(0, 1)] rfl rfl rfl Wk.rfl ⟨⟨_, _, _, rfl, rfl, rfl, WkO.row ⟨Wk.rfl, Wk.rfl, Wk.rfl, Wk.rfl, Wk.nil, trivial⟩⟩, trivial⟩)))
  | cons e l =>
    have hlen : (entP (e :: l)).length ≤ 10000000000 := by rw [entP_len]; exact hl
    refine MF.op trivial (SOp.appN rfl rfl .tz (by simp [entP]) (by omega)) (MF.go rfl (MF.nil mixed (Fnl.nodup rfl) rfl ⟨⟨stepX_ok rfl, trivial⟩, trivial⟩ ?_))
    refine M.goN 1 rfl ?_
    refine M.freezeR (b0 := 2) (o := 4) (b := 1) rfl rfl rfl rfl rfl rfl ?_
    refine M.go rfl ?_
    exact M.ret (M.go rfl (M.done (finQ.ret [(0, 2)] rfl rfl rfl Wk.rfl ⟨⟨_, _, _, rfl, rfl, rfl, WkO.row ⟨Wk.rfl, Wk.rfl, Wk.rfl, Wk.rfl, Wk.trans Wk.uncap (Wk.some (by simp [entP])), trivial⟩⟩, trivial⟩)))
end Go.Proofs.Yteegdhfekemhmaa

/- delphilaw1.Short; delphiref22's Conf out of ConfAt (to come). -/
namespace Go.Proofs.Yteegdhfekemhmaa
open Go.RowKit Sim Go Sym
set_option maxRecDepth 100000
set_option linter.unusedVariables false
set_option linter.unusedSimpArgs false
variable {base : Nat}
noncomputable def lShort : {F : LF // lowerF Try.prog 26 = some F} := ⟨_, rfl⟩
theorem short_spec (z : Bool) (el : List PC) (c : Option Nat) (n : Nat) (hn : 0 < n) : CallS Try.prog base 26 [.c (.p (.tz z 1 el c)), .c (.p (.int .i64 n))] ⟨[], 0⟩ (.c (.p (.tz z 1 (el.take n) none))) ⟨[], 0⟩ := by
  refine CallS.of noNG lShort.2 rfl (M.start (M.go rfl ?_))
  refine M.cond rfl (fun h => ?_) (fun h => ?_)
  · refine M.go rfl ?_
    refine M.op trivial (SOp.sl (r := n) rfl rfl ⟨_, _, rfl, by omega, by omega⟩ (Nat.zero_le _) (by omega)) ?_
    refine M.go rfl ?_
    have h1 : (el.drop 0).take (n - 0) = el.take n := by simp
    rw [h1]
    have h2 : el.take n ≠ [] := by
      intro e
      have := congrArg List.length e
      simp at this
      rcases this with h3 | h3
      · omega
      · subst h3; simp at h; omega
    exact M.ret (M.go rfl (M.done (finQ.ret [] rfl rfl rfl (Wk.trans Wk.uncap (Wk.some h2)) (by repeat' (first | exact True.intro | refine ⟨⟨_, _, _, rfl, rfl, rfl, WkO.rfl⟩, ?_⟩ | refine HeapOK.acc rfl rfl ?_)))))
  · refine M.go rfl ?_
    rw [List.take_of_length_le (by omega)]
    exact M.ret (M.go rfl (M.done (finQ.ret [] rfl rfl rfl (by first | exact Wk.rfl | exact Wk.uncap | exact Wk.nil | exact Wk.b1 rfl | exact Wk.t2 Wk.rfl (Wk.b1 rfl)) (by repeat' (first | exact True.intro | refine ⟨⟨_, _, _, rfl, rfl, rfl, WkO.rfl⟩, ?_⟩ | refine HeapOK.acc rfl rfl ?_)))))
end Go.Proofs.Yteegdhfekemhmaa

/- delphiref22: ConfAt. -/
namespace Go.Proofs.Yteegdhfekemhmaa
open Go.RowKit Sim Go Sym
set_option maxRecDepth 100000
set_option linter.unusedVariables false
set_option linter.unusedSimpArgs false
variable {base : Nat}
noncomputable def lRCa : {F : LF // lowerF Try.prog 109 = some F} := ⟨_, rfl⟩
def PLog.rconfN (L : PLog) (i : Int) : Nat → Bool × List Int × Option Nat
  | 0 => (L.S.cz, L.S.cf, L.S.cc)
  | j + 1 => if (L.E.getD j default).kd = 3 ∧ (L.E.getD j default).ix ≤ i then (true, selI (nI (L.E.getD j default).d), none) else L.rconfN i j
def rconfV (r : Bool × List Int × Option Nat) : XV := .c (.p (.tz r.1 1 (inP r.2.1) r.2.2))
theorem rca_loop (L : PLog) (hL : L.ok) (i : Int) (Q : QX) :
    ∀ (j : Nat) (v : Int), v = (j : Int) - 1 → j ≤ L.E.length → (L.rconfN i j = L.rconfN i 0 → Q (.exit 0) [(0, .c (.ptr 0 0))] L.h) → (∀ r, L.rconfN i j = r → Q .ret [(4, rconfV r)] L.h) → XH Try.prog base lRCa.1.n 1 (lRCa.1.c.lp 0) [(0, .c (.ptr 0 0)), (1, .c (.p (.int .i64 i))), (5, .c (.p (.int .i64 v)))] L.h Q := by
  intro j
  induction j with
  | zero =>
    intro v hv hj hq hr
    refine M.round (M.go rfl ?_)
    refine M.cond rfl (fun hc => absurd hc (by omega)) (fun hc => ?_)
    refine M.ren [(0, 0)] ?_ trivial rfl (by repeat' (first | exact True.intro | refine ⟨⟨_, _, rfl, rfl, Wk.rfl⟩, ?_⟩ | refine ⟨⟨_, _, accV_ren rfl, rfl, Wk.rfl⟩, ?_⟩ | refine ⟨⟨_, _, accV_ren rfl, rfl, Wk.acc0⟩, ?_⟩ | refine ⟨⟨_, _, rfl, rfl, Wk.uncap⟩, ?_⟩ | refine ⟨⟨_, _, rfl, rfl, Wk.nil⟩, ?_⟩)) (by repeat' (first | exact True.intro | refine ⟨⟨_, _, _, rfl, rfl, rfl, WkO.rfl⟩, ?_⟩ | refine HeapOK.acc rfl rfl ?_)) (e' := [(0, .c (.ptr 0 0))]) (h' := L.h)
    exact M.exit (M.go rfl (M.done (hq rfl)))
  | succ j ih =>
    intro v hv hj hq hr
    obtain rfl : v = (j : Int) := by omega
    have hlen := hL.len
    have hjl : j < L.E.length := by omega
    obtain ⟨e, he⟩ : ∃ e, L.E.getD j default = e := ⟨_, rfl⟩
    have hE : L.E[j]? = some e := by rw [← he, List.getD_eq_getElem?_getD, List.getElem?_eq_getElem hjl]; rfl
    have hu : (entP L.E)[((j : Int)).toNat]? = some e.pc := by rw [entP, List.getElem?_map, Int.toNat_natCast, hE]; rfl
    have heok : e.ok := hL.E e (List.mem_of_getElem? hE)
    have hw : IntKind.i64.wrap ((j : Int) - 1) = (j : Int) - 1 := wr64 (by omega) (by omega)
    have next : ¬ (e.kd = 3 ∧ e.ix ≤ i) → XH Try.prog base lRCa.1.n 1 (lRCa.1.c.lp 0) [(0, .c (.ptr 0 0)), (1, .c (.p (.int .i64 i))), (5, .c (.p (.int .i64 ((j : Int) - 1))))] L.h Q := fun h => by
      have e0 : L.rconfN i (j + 1) = L.rconfN i j := by rw [PLog.rconfN, he, if_neg h]
      rw [e0] at hq hr
      exact ih _ rfl (by omega) hq hr
    refine M.round (M.go rfl ?_)
    refine M.cond rfl (fun hc => ?_) (fun hc => absurd (by omega) hc)
    refine M.go rfl ?_
    refine M.op trivial (SOp.ia rfl rfl (by omega) hu) ?_
    refine M.go rfl ?_
    refine M.op trivial (SOp.ld1e rfl hu rfl rfl rfl) ?_
    refine M.go rfl ?_
    refine M.dec rfl (fun h1 => ?_) (fun h1 => ?_)
    · refine M.go rfl ?_
      refine M.op rfl (SOp.ia rfl rfl (by omega) hu) ?_
      refine M.go rfl ?_
      refine M.op rfl (SOp.ld1e rfl hu rfl rfl rfl) ?_
      refine M.go rfl ?_
      refine M.cond rfl (fun h2 => ?_) (fun h2 => ?_)
      · refine M.go rfl ?_
        refine M.op trivial (SOp.ia rfl rfl (by omega) hu) ?_
        refine M.go rfl ?_
        refine M.op trivial (SOp.ld1e rfl hu rfl rfl rfl) ?_
        refine M.go rfl ?_
        refine M.use0 trivial (ids_spec e.z e.c e.d heok.d) rfl rfl rfl ?_
        refine M.go rfl ?_
        refine M.ren [(0, 0)] ?_ trivial rfl (by repeat' (first | exact True.intro | refine ⟨⟨_, _, rfl, rfl, Wk.rfl⟩, ?_⟩ | refine ⟨⟨_, _, accV_ren rfl, rfl, Wk.rfl⟩, ?_⟩ | refine ⟨⟨_, _, accV_ren rfl, rfl, Wk.acc0⟩, ?_⟩ | refine ⟨⟨_, _, rfl, rfl, Wk.uncap⟩, ?_⟩ | refine ⟨⟨_, _, rfl, rfl, Wk.nil⟩, ?_⟩)) (by repeat' (first | exact True.intro | refine ⟨⟨_, _, _, rfl, rfl, rfl, WkO.rfl⟩, ?_⟩ | refine HeapOK.acc rfl rfl ?_)) (e' := [(4, rconfV (true, selI (nI e.d), none))]) (h' := L.h)
        exact M.ret (M.go rfl (M.done (hr _ (by rw [PLog.rconfN, he, if_pos ⟨h1, h2⟩]))))
      · refine M.go rfl ?_
        rw [hw]
        exact M.again (XH.ren [(0, 0)] (next (fun h => h2 h.2)) rfl (by repeat' (first | exact True.intro | refine ⟨⟨_, _, rfl, rfl, Wk.rfl⟩, ?_⟩ | refine ⟨⟨_, _, accV_ren rfl, rfl, Wk.rfl⟩, ?_⟩ | refine ⟨⟨_, _, accV_ren rfl, rfl, Wk.acc0⟩, ?_⟩ | refine ⟨⟨_, _, rfl, rfl, Wk.uncap⟩, ?_⟩ | refine ⟨⟨_, _, rfl, rfl, Wk.nil⟩, ?_⟩)) (by repeat' (first | exact True.intro | refine ⟨⟨_, _, _, rfl, rfl, rfl, WkO.rfl⟩, ?_⟩ | refine HeapOK.acc rfl rfl ?_)))
    · refine M.go rfl ?_
      rw [hw]
      exact M.again (XH.ren [(0, 0)] (next (fun h => h1 h.1)) rfl (by repeat' (first | exact True.intro | refine ⟨⟨_, _, rfl, rfl, Wk.rfl⟩, ?_⟩ | refine ⟨⟨_, _, accV_ren rfl, rfl, Wk.rfl⟩, ?_⟩ | refine ⟨⟨_, _, accV_ren rfl, rfl, Wk.acc0⟩, ?_⟩ | refine ⟨⟨_, _, rfl, rfl, Wk.uncap⟩, ?_⟩ | refine ⟨⟨_, _, rfl, rfl, Wk.nil⟩, ?_⟩)) (by repeat' (first | exact True.intro | refine ⟨⟨_, _, _, rfl, rfl, rfl, WkO.rfl⟩, ?_⟩ | refine HeapOK.acc rfl rfl ?_)))
theorem RConfAt_spec (L : PLog) (hL : L.ok) (i : Int) : CallS Try.prog base 109 [.c (.ptr 0 0), .c (.p (.int .i64 i))] L.h (rconfV (L.rconfN i L.E.length)) L.h := by
  have hlen := hL.len
  refine CallS.of noNG lRCa.2 rfl (M.start (M.go rfl ?_))
  have hw : IntKind.i64.wrap (((entP L.E).length : Int) - 1) = (L.E.length : Int) - 1 := by rw [entP_len]; exact wr64 (by omega) (by omega)
  rw [hw]
  refine M.loop (XH.ren [(0, 0)] (rca_loop L hL i _ L.E.length _ rfl (Nat.le_refl _) (fun h => ?_) (fun r h => ?_)) rfl (by repeat' (first | exact True.intro | refine ⟨⟨_, _, rfl, rfl, Wk.rfl⟩, ?_⟩ | refine ⟨⟨_, _, accV_ren rfl, rfl, Wk.rfl⟩, ?_⟩ | refine ⟨⟨_, _, accV_ren rfl, rfl, Wk.acc0⟩, ?_⟩ | refine ⟨⟨_, _, rfl, rfl, Wk.uncap⟩, ?_⟩ | refine ⟨⟨_, _, rfl, rfl, Wk.nil⟩, ?_⟩)) (by repeat' (first | exact True.intro | refine ⟨⟨_, _, _, rfl, rfl, rfl, WkO.rfl⟩, ?_⟩ | refine HeapOK.acc rfl rfl ?_)))
  · refine M.q (M.go rfl ?_)
    rw [h]
    exact M.ret (M.go rfl (M.done (finQ.ret [(0, 0)] rfl rfl rfl (by first | exact Wk.rfl | exact Wk.uncap | exact Wk.nil | exact Wk.b1 rfl | exact Wk.t2 Wk.rfl (Wk.b1 rfl)) (by repeat' (first | exact True.intro | refine ⟨⟨_, _, _, rfl, rfl, rfl, WkO.rfl⟩, ?_⟩ | refine HeapOK.acc rfl rfl ?_)))))
  · refine M.q (M.go rfl ?_)
    rw [h]
    exact M.done (finQ.ret [(0, 0)] rfl rfl rfl Wk.rfl (by repeat' (first | exact True.intro | refine ⟨⟨_, _, _, rfl, rfl, rfl, WkO.rfl⟩, ?_⟩ | refine HeapOK.acc rfl rfl ?_)))
noncomputable def lRCo : {F : LF // lowerF Try.prog 106 = some F} := ⟨_, rfl⟩
theorem RConf_spec (L : PLog) (hL : L.ok) : CallS Try.prog base 106 [.c (.ptr 0 0)] L.h (rconfV (L.rconfN L.last L.E.length)) L.h := by
  refine CallS.of noNG lRCo.2 rfl (M.start (M.go rfl ?_))
  refine M.use (by first | exact True.intro | exact rfl) (RLast_spec L hL) [(0, 0)] rfl rfl rfl (by repeat' (first | exact True.intro | refine ⟨⟨_, _, _, rfl, rfl, rfl, WkO.rfl⟩, ?_⟩ | refine HeapOK.acc rfl rfl ?_)) rfl rfl ?_
  refine M.go rfl ?_
  refine M.use (by first | exact True.intro | exact rfl) (RConfAt_spec L hL L.last) [(0, 0)] rfl rfl rfl (by repeat' (first | exact True.intro | refine ⟨⟨_, _, _, rfl, rfl, rfl, WkO.rfl⟩, ?_⟩ | refine HeapOK.acc rfl rfl ?_)) rfl rfl ?_
  refine M.go rfl ?_
  exact M.ret (M.go rfl (M.done (finQ.ret [(0, 0)] rfl rfl rfl (by first | exact Wk.rfl | exact Wk.uncap | exact Wk.nil | exact Wk.b1 rfl | exact Wk.t2 Wk.rfl (Wk.b1 rfl)) (by repeat' (first | exact True.intro | refine ⟨⟨_, _, _, rfl, rfl, rfl, WkO.rfl⟩, ?_⟩ | refine HeapOK.acc rfl rfl ?_)))))
end Go.Proofs.Yteegdhfekemhmaa

/- delphiref22's Log: Slice, Put, Compact, Reset. -/
namespace Go.Proofs.Yteegdhfekemhmaa
open Go.RowKit Sim Go Sym
set_option maxRecDepth 100000
set_option linter.unusedVariables false
set_option linter.unusedSimpArgs false
variable {base : Nat}
noncomputable def lRSl : {F : LF // lowerF Try.prog 111 = some F} := ⟨_, rfl⟩
def PLog.rslice (L : PLog) (f n : Int) : List Ent := if f ≤ L.S.ix ∨ L.last < f ∨ n < 1 then [] else (L.E.drop (f - L.S.ix - 1).toNat).take n.toNat
theorem RSlice_spec (L : PLog) (hL : L.ok) (f n : Int) (hf : I64 f) : CallS Try.prog base 111 [.c (.ptr 0 0), .c (.p (.int .i64 f)), .c (.p (.int .i64 n))] L.h (.c (.p (.tz true 4 (entP (L.rslice f n)) none))) L.h := by
  have hlen := hL.len
  refine CallS.of noNG lRSl.2 rfl (M.start (M.go rfl ?_))
  refine M.dec rfl (fun h2 => ?_) (fun h2 => ?_)
  · refine M.go rfl ?_
    rw [show L.rslice f n = [] from if_pos (.inl h2)]
    exact M.ret (M.go rfl (M.done (finQ.ret [(0, 0)] rfl rfl rfl (by first | exact Wk.rfl | exact Wk.uncap | exact Wk.nil | exact Wk.b1 rfl | exact Wk.t2 Wk.rfl (Wk.b1 rfl)) (by repeat' (first | exact True.intro | refine ⟨⟨_, _, _, rfl, rfl, rfl, WkO.rfl⟩, ?_⟩ | refine HeapOK.acc rfl rfl ?_)))))
  refine M.go rfl ?_
  refine M.use (by first | exact True.intro | exact rfl) (RLast_spec L hL) [(0, 0)] rfl rfl rfl (by repeat' (first | exact True.intro | refine ⟨⟨_, _, _, rfl, rfl, rfl, WkO.rfl⟩, ?_⟩ | refine HeapOK.acc rfl rfl ?_)) rfl rfl ?_
  refine M.go rfl ?_
  refine M.dec rfl (fun h3 => ?_) (fun h3 => ?_)
  · refine M.go rfl ?_
    rw [show L.rslice f n = [] from if_pos (.inr (.inl h3))]
    exact M.ret (M.go rfl (M.done (finQ.ret [(0, 0)] rfl rfl rfl (by first | exact Wk.rfl | exact Wk.uncap | exact Wk.nil | exact Wk.b1 rfl | exact Wk.t2 Wk.rfl (Wk.b1 rfl)) (by repeat' (first | exact True.intro | refine ⟨⟨_, _, _, rfl, rfl, rfl, WkO.rfl⟩, ?_⟩ | refine HeapOK.acc rfl rfl ?_)))))
  refine M.go rfl ?_
  refine M.cond rfl (fun h8 => ?_) (fun h8 => ?_)
  · refine M.go rfl ?_
    rw [show L.rslice f n = [] from if_pos (.inr (.inr h8))]
    exact M.ret (M.go rfl (M.done (finQ.ret [(0, 0)] rfl rfl rfl (by first | exact Wk.rfl | exact Wk.uncap | exact Wk.nil | exact Wk.b1 rfl | exact Wk.t2 Wk.rfl (Wk.b1 rfl)) (by repeat' (first | exact True.intro | refine ⟨⟨_, _, _, rfl, rfl, rfl, WkO.rfl⟩, ?_⟩ | refine HeapOK.acc rfl rfl ?_)))))
  refine M.go rfl ?_
  rw [show L.rslice f n = (L.E.drop (f - L.S.ix - 1).toNat).take n.toNat from if_neg (by omega)]
  refine M.regD (MD.go rfl ?_)
  rw [hL.wrap hf (by omega)]
  have hle : (f - L.S.ix - 1).toNat ≤ (entP L.E).length := by rw [entP_len]; have := hL.ix; unfold PLog.last at h3; omega
  refine MD.op trivial (SOp.sl rfl ⟨_, _, rfl, by omega, rfl⟩ rfl hle (Nat.le_refl _)) (MD.go rfl (MD.nil mixed (Fnl.nodup rfl) (M.go rfl ?_)))
  rw [drop_take]
  obtain ⟨X, hX⟩ : ∃ X, X = L.E.drop (f - L.S.ix - 1).toNat := ⟨_, rfl⟩
  have hXl : X.length ≤ 10000000000 := by rw [hX]; simp; omega
  rw [← hX]
  have hel : (entP X).length = X.length := entP_len X
  refine M.cond rfl (fun h9 => ?_) (fun h9 => ?_)
  · refine M.go rfl ?_
    refine M.op trivial (SOp.sl (l := 0) (r := n.toNat) rfl rfl ⟨_, _, rfl, by omega, rfl⟩ (by omega) (by omega)) ?_
    refine M.go rfl ?_
    have e1 : ((entP X).drop 0).take (n.toNat - 0) = entP (X.take n.toNat) := by simp [entP, List.map_take]
    rw [e1]
    refine M.appNF trivial rfl rfl .tz (by rw [entP_len]; simp; omega) ?_
    refine M.go rfl ?_
    exact M.ret (M.go rfl (M.done (finQ.ret [(0, 0)] rfl rfl rfl (by first | exact Wk.rfl | exact Wk.uncap | exact Wk.nil | exact Wk.b1 rfl | exact Wk.t2 Wk.rfl (Wk.b1 rfl)) (by repeat' (first | exact True.intro | refine ⟨⟨_, _, _, rfl, rfl, rfl, WkO.rfl⟩, ?_⟩ | refine HeapOK.acc rfl rfl ?_)))))
  · refine M.go rfl ?_
    refine M.appNF trivial rfl rfl .tz (by rw [entP_len]; omega) ?_
    refine M.go rfl ?_
    rw [List.take_of_length_le (by omega)]
    exact M.ret (M.go rfl (M.done (finQ.ret [(0, 0)] rfl rfl rfl (by first | exact Wk.rfl | exact Wk.uncap | exact Wk.nil | exact Wk.b1 rfl | exact Wk.t2 Wk.rfl (Wk.b1 rfl)) (by repeat' (first | exact True.intro | refine ⟨⟨_, _, _, rfl, rfl, rfl, WkO.rfl⟩, ?_⟩ | refine HeapOK.acc rfl rfl ?_)))))
/-! Put. -/
noncomputable def lRPut : {F : LF // lowerF Try.prog 54 = some F} := ⟨_, rfl⟩
def PLog.rputOk (L : PLog) (l : List Ent) : Bool := match l with
  | [] => false
  | e :: _ => decide (L.S.ix < e.ix) && (decide (e.ix ≤ L.last + 1) && goodF (e.ix - 1) (L.term (e.ix - 1)).1 l)
def PLog.rput (L : PLog) (l : List Ent) : PLog := ⟨L.S, L.E.take ((l.headD default).ix - L.S.ix - 1).toNat ++ l, true, none⟩
theorem RPut_nil (L : PLog) (z : Bool) (c : Option Nat) : CallS Try.prog base 54 [.c (.ptr 0 0), .c (.p (.tz z 4 [] c))] L.h (.c (.p (.bs false))) L.h := by
  refine CallS.of noNG lRPut.2 rfl (M.start (M.go rfl ?_))
  refine M.regF (MF.go rfl ?_)
  refine MF.dec rfl rfl rfl (fun h1 => ?_) (fun h1 => absurd rfl h1)
  refine MF.go rfl (MF.nil mixed (Fnl.nodup rfl) rfl ⟨trivial, trivial⟩ (M.go rfl ?_))
  exact M.ret (M.go rfl (M.done (finQ.ret [(0, 0)] rfl rfl rfl (by first | exact Wk.rfl | exact Wk.uncap | exact Wk.nil | exact Wk.b1 rfl | exact Wk.t2 Wk.rfl (Wk.b1 rfl)) (by repeat' (first | exact True.intro | refine ⟨⟨_, _, _, rfl, rfl, rfl, WkO.rfl⟩, ?_⟩ | refine HeapOK.acc rfl rfl ?_)))))
theorem RPut_no (L : PLog) (hL : L.ok) (hmax : L.last < 9223372036854775807) (z : Bool) (c : Option Nat) (e : Ent) (l : List Ent) (hl : (e :: l).length ≤ 10000000000) (hok : ∀ e' ∈ e :: l, e'.ok) (hno : L.rputOk (e :: l) = false) : CallS Try.prog base 54 [.c (.ptr 0 0), .c (.p (.tz z 4 (entP (e :: l)) c))] L.h (.c (.p (.bs false))) L.h := by
  have he := hok e (by simp)
  have hix := hL.ix
  refine CallS.of noNG lRPut.2 rfl (M.start (M.go rfl ?_))
  refine M.regF (MF.go rfl ?_)
  refine MF.dec rfl rfl rfl (fun h1 => absurd h1 (by simp [entP]; omega)) (fun h1 => ?_)
  refine MF.go rfl ?_
  have hu : (entP (e :: l))[(0 : Int).toNat]? = some e.pc := rfl
  refine MF.op rfl (SOp.ia rfl rfl (by omega) hu) (MF.go rfl ?_)
  refine MF.op rfl (SOp.ld1e rfl hu rfl rfl rfl) (MF.go rfl ?_)
  refine MF.dec rfl rfl rfl (fun h2 => ?_) (fun h2 => ?_)
  · refine MF.go rfl (MF.nil mixed (Fnl.nodup rfl) rfl ⟨trivial, trivial⟩ (M.go rfl ?_))
    exact M.ret (M.go rfl (M.done (finQ.ret [(0, 0)] rfl rfl rfl (by first | exact Wk.rfl | exact Wk.uncap | exact Wk.nil | exact Wk.b1 rfl | exact Wk.t2 Wk.rfl (Wk.b1 rfl)) (by repeat' (first | exact True.intro | refine ⟨⟨_, _, _, rfl, rfl, rfl, WkO.rfl⟩, ?_⟩ | refine HeapOK.acc rfl rfl ?_)))))
  · refine MF.go rfl ?_
    refine MF.op rfl (SOp.ia rfl rfl (by omega) hu) (MF.go rfl ?_)
    refine MF.op rfl (SOp.ld1e rfl hu rfl rfl rfl) (MF.go rfl ?_)
    refine MF.use rfl (RLast_spec L hL) [(0, 0)] rfl rfl rfl (by repeat' (first | exact True.intro | refine ⟨⟨_, _, _, rfl, rfl, rfl, WkO.rfl⟩, ?_⟩ | refine HeapOK.acc rfl rfl ?_)) rfl rfl ?_
    have hw : IntKind.i64.wrap (L.last + 1) = L.last + 1 := wr64 (by unfold PLog.last; omega) (by omega)
    refine MF.go rfl (MF.nil mixed (Fnl.nodup rfl) rfl ⟨⟨SOp.ld1e rfl hu rfl rfl rfl, trivial⟩, trivial⟩ (M.go rfl ?_))
    rw [hw]
    refine M.cond rfl (fun h3 => ?_) (fun h3 => ?_)
    · refine M.go rfl ?_
      exact M.ret (M.go rfl (M.done (finQ.ret [(0, 0)] rfl rfl rfl (by first | exact Wk.rfl | exact Wk.uncap | exact Wk.nil | exact Wk.b1 rfl | exact Wk.t2 Wk.rfl (Wk.b1 rfl)) (by repeat' (first | exact True.intro | refine ⟨⟨_, _, _, rfl, rfl, rfl, WkO.rfl⟩, ?_⟩ | refine HeapOK.acc rfl rfl ?_)))))
    · refine M.go rfl ?_
      refine M.op trivial (SOp.ia rfl rfl (by omega) hu) ?_
      refine M.go rfl ?_
      refine M.op trivial (SOp.ld1e rfl hu rfl rfl rfl) ?_
      refine M.go rfl ?_
      have hw2 : IntKind.i64.wrap (e.ix - 1) = e.ix - 1 := wr64 (by omega) (by omega)
      rw [hw2]
      refine M.use (by first | exact True.intro | exact rfl) (RTerm_spec L hL (e.ix - 1) ⟨by omega, by omega⟩) [(0, 0)] rfl rfl rfl (by repeat' (first | exact True.intro | refine ⟨⟨_, _, _, rfl, rfl, rfl, WkO.rfl⟩, ?_⟩ | refine HeapOK.acc rfl rfl ?_)) rfl rfl ?_
      refine M.go rfl ?_
      refine M.op trivial (SOp.ia rfl rfl (by omega) hu) ?_
      refine M.go rfl ?_
      refine M.op trivial (SOp.ld1e rfl hu rfl rfl rfl) ?_
      refine M.go rfl ?_
      rw [hw2]
      refine M.use0 trivial (good_spec z c (e :: l) (e.ix - 1) (L.term (e.ix - 1)).1 (by omega) hok ⟨by omega, by omega⟩) rfl rfl rfl ?_
      refine M.go rfl ?_
      have hg : goodF (e.ix - 1) (L.term (e.ix - 1)).1 (e :: l) = false := by
        rw [PLog.rputOk, decide_eq_true (by omega), decide_eq_true (by omega)] at hno
        simpa using hno
      refine M.condB rfl (fun h4 => ?_) (fun h4 => ?_)
      · refine M.go rfl ?_
        exact M.ret (M.go rfl (M.done (finQ.ret [(0, 0)] rfl rfl rfl (by first | exact Wk.rfl | exact Wk.uncap | exact Wk.nil | exact Wk.b1 rfl | exact Wk.t2 Wk.rfl (Wk.b1 rfl)) (by repeat' (first | exact True.intro | refine ⟨⟨_, _, _, rfl, rfl, rfl, WkO.rfl⟩, ?_⟩ | refine HeapOK.acc rfl rfl ?_)))))
      · rw [hg] at h4; cases h4
theorem accV_of {b s m : Nat} {x : PC} {l : List PC} (h : m = (x :: l).length) : Wk (.c (.sl b 0 m s none)) (accV b s (x :: l)) := by subst h; exact Wk.of rfl
theorem RPut_yes (L : PLog) (hL : L.ok) (hmax : L.last < 9223372036854775807) (z : Bool) (c : Option Nat) (e : Ent) (l : List Ent) (hl : (e :: l).length ≤ 10000000000) (hok : ∀ e' ∈ e :: l, e'.ok) (hno : L.rputOk (e :: l) = true) : CallS Try.prog base 54 [.c (.ptr 0 0), .c (.p (.tz z 4 (entP (e :: l)) c))] L.h (.c (.p (.bs true))) (L.rput (e :: l)).h := by
  have he := hok e (by simp)
  have hix := hL.ix
  have hlen := hL.len
  rw [PLog.rputOk] at hno
  simp only [Bool.and_eq_true, decide_eq_true_eq] at hno
  obtain ⟨g1, g2, g3⟩ := hno
  refine CallS.of noNG lRPut.2 rfl (M.start (M.go rfl ?_))
  refine M.regF (MF.go rfl ?_)
  refine MF.dec rfl rfl rfl (fun h1 => absurd h1 (by simp [entP]; omega)) (fun h1 => ?_)
  refine MF.go rfl ?_
  have hu : (entP (e :: l))[(0 : Int).toNat]? = some e.pc := rfl
  refine MF.op rfl (SOp.ia rfl rfl (by omega) hu) (MF.go rfl ?_)
  refine MF.op rfl (SOp.ld1e rfl hu rfl rfl rfl) (MF.go rfl ?_)
  refine MF.dec rfl rfl rfl (fun h2 => absurd h2 (by omega)) (fun h2 => ?_)
  refine MF.go rfl ?_
  refine MF.op rfl (SOp.ia rfl rfl (by omega) hu) (MF.go rfl ?_)
  refine MF.op rfl (SOp.ld1e rfl hu rfl rfl rfl) (MF.go rfl ?_)
  refine MF.use rfl (RLast_spec L hL) [(0, 0)] rfl rfl rfl (by repeat' (first | exact True.intro | refine ⟨⟨_, _, _, rfl, rfl, rfl, WkO.rfl⟩, ?_⟩ | refine HeapOK.acc rfl rfl ?_)) rfl rfl ?_
  have hw : IntKind.i64.wrap (L.last + 1) = L.last + 1 := wr64 (by unfold PLog.last; omega) (by omega)
  refine MF.go rfl (MF.nil mixed (Fnl.nodup rfl) rfl ⟨⟨SOp.ld1e rfl hu rfl rfl rfl, trivial⟩, trivial⟩ (M.go rfl ?_))
  rw [hw]
  refine M.cond rfl (fun h3 => absurd h3 (by omega)) (fun h3 => ?_)
  refine M.go rfl ?_
  refine M.op trivial (SOp.ia rfl rfl (by omega) hu) ?_
  refine M.go rfl ?_
  refine M.op trivial (SOp.ld1e rfl hu rfl rfl rfl) ?_
  refine M.go rfl ?_
  have hw2 : IntKind.i64.wrap (e.ix - 1) = e.ix - 1 := wr64 (by omega) (by omega)
  rw [hw2]
  refine M.use (by first | exact True.intro | exact rfl) (RTerm_spec L hL (e.ix - 1) ⟨by omega, by omega⟩) [(0, 0)] rfl rfl rfl (by repeat' (first | exact True.intro | refine ⟨⟨_, _, _, rfl, rfl, rfl, WkO.rfl⟩, ?_⟩ | refine HeapOK.acc rfl rfl ?_)) rfl rfl ?_
  refine M.go rfl ?_
  refine M.op trivial (SOp.ia rfl rfl (by omega) hu) ?_
  refine M.go rfl ?_
  refine M.op trivial (SOp.ld1e rfl hu rfl rfl rfl) ?_
  refine M.go rfl ?_
  rw [hw2]
  refine M.use0 trivial (good_spec z c (e :: l) (e.ix - 1) (L.term (e.ix - 1)).1 (by omega) hok ⟨by omega, by omega⟩) rfl rfl rfl ?_
  refine M.go rfl ?_
  refine M.condB rfl (fun h4 => by rw [g3] at h4; cases h4) (fun h4 => ?_)
  refine M.go rfl ?_
  obtain ⟨T, hT⟩ : ∃ T, T = L.E.take (e.ix - L.S.ix - 1).toNat := ⟨_, rfl⟩
  have hTl : T.length ≤ 10000000000 := by rw [hT]; simp; omega
  have hw3 : IntKind.i64.wrap (IntKind.i64.wrap (e.ix - L.S.ix) - 1) = e.ix - L.S.ix - 1 := hL.wrap he.ix (by omega)
  have hle : (e.ix - L.S.ix - 1).toNat ≤ (entP L.E).length := by rw [entP_len]; unfold PLog.last at g2; omega
  have e1 : ((entP L.E).drop 0).take ((e.ix - L.S.ix - 1).toNat - 0) = entP T := by rw [hT]; simp [entP, List.map_take]
  refine M.midV [(0, .c (.ptr 0 0)), (1, .c (.p (.tz z 4 (entP (e :: l)) c))), (7, accV 1 4 (entP T))] ⟨[(1, accO 4 (entP T)), (0, some (.row L.row true))], 2⟩ ?_ ?_
  · refine M.regD (MD.go rfl ?_)
    refine MD.op trivial (SOp.ia rfl rfl (by omega) hu) (MD.go rfl ?_)
    refine MD.op trivial (SOp.ld1e rfl hu rfl rfl rfl) (MD.go rfl ?_)
    rw [hw3]
    refine MD.op trivial (SOp.sl (l := 0) (r := (e.ix - L.S.ix - 1).toNat) rfl rfl ⟨_, _, rfl, by omega, rfl⟩ (by omega) hle) (MD.go rfl ?_)
    rw [e1]
    cases T with
    | nil =>
      refine MD.op trivial (SOp.app0 rfl rfl .tz (.inr ⟨_, _, _, _, rfl⟩)) (MD.go rfl (MD.nil mixed (Fnl.nodup rfl) (M.done ⟨rfl, ?_⟩)))
      exact Sh.ren [(0, 0), (1, 1)] rfl (by repeat' (first | exact True.intro | refine ⟨⟨_, _, rfl, rfl, Wk.rfl⟩, ?_⟩ | refine ⟨⟨_, _, accV_ren rfl, rfl, Wk.rfl⟩, ?_⟩ | refine ⟨⟨_, _, accV_ren rfl, rfl, Wk.acc0⟩, ?_⟩ | refine ⟨⟨_, _, rfl, rfl, Wk.uncap⟩, ?_⟩ | refine ⟨⟨_, _, rfl, rfl, Wk.nil⟩, ?_⟩)) (by repeat' (first | exact True.intro | refine ⟨⟨_, _, _, rfl, rfl, rfl, WkO.rfl⟩, ?_⟩ | refine HeapOK.acc rfl rfl ?_))
    | cons t T =>
      refine MD.op trivial (SOp.appN rfl rfl .tz (by simp [entP]) (by rw [entP_len]; omega)) (MD.go rfl (MD.nil mixed (Fnl.nodup rfl) (M.done ⟨rfl, ?_⟩)))
      exact Sh.wk (i := 7) (v' := accV 1 4 (entP (t :: T))) rfl (accV_of rfl) (Sh.ren [(0, 0), (1, 1)] rfl (by repeat' (first | exact True.intro | refine ⟨⟨_, _, rfl, rfl, Wk.rfl⟩, ?_⟩ | refine ⟨⟨_, _, accV_ren rfl, rfl, Wk.rfl⟩, ?_⟩ | refine ⟨⟨_, _, accV_ren rfl, rfl, Wk.acc0⟩, ?_⟩ | refine ⟨⟨_, _, rfl, rfl, Wk.uncap⟩, ?_⟩ | refine ⟨⟨_, _, rfl, rfl, Wk.nil⟩, ?_⟩)) (by repeat' (first | exact True.intro | refine ⟨⟨_, _, _, rfl, rfl, rfl, WkO.rfl⟩, ?_⟩ | refine HeapOK.acc rfl rfl ?_)))
  · refine M.go rfl ?_
    refine M.acc trivial rfl rfl rfl .tz (by simp [entP]) (by rw [entP_len, entP_len]; simp at hl ⊢; omega) ?_
    refine M.goN 5 rfl ?_
    refine M.accFR (b0 := 0) (o := 4) (b := 2) rfl rfl rfl rfl rfl ?_
    refine M.go rfl ?_
    rw [show (L.rput (e :: l)).h = ⟨[(0, some (.row [.p (.int .i64 L.S.ix), .p (.int .i64 L.S.tm), .p (.tz L.S.cz 1 (inP L.S.cf) L.S.cc), .p (.tz L.S.dz 1 (byP L.S.d) L.S.dc), .p (.tz true 4 (entP T ++ entP (e :: l)) none)] true))], 1⟩ by rw [PLog.rput, PLog.h, PLog.row, List.headD_cons, ← hT]; simp [entP]]
    exact M.ret (M.go rfl (M.done (finQ.ret [(0, 0)] rfl rfl rfl (by first | exact Wk.rfl | exact Wk.uncap | exact Wk.nil | exact Wk.b1 rfl | exact Wk.t2 Wk.rfl (Wk.b1 rfl)) (by repeat' (first | exact True.intro | refine ⟨⟨_, _, _, rfl, rfl, rfl, WkO.rfl⟩, ?_⟩ | refine HeapOK.acc rfl rfl ?_)))))
/-! Compact. -/
noncomputable def lRComp : {F : LF // lowerF Try.prog 55 = some F} := ⟨_, rfl⟩
def PLog.rconf (L : PLog) (i : Int) : Bool × List Int × Option Nat := L.rconfN i L.E.length
def PLog.rcompact (L : PLog) (i : Int) (d : List Nat) : PLog := ⟨⟨i, (L.term i).1, (L.rconf i).1, (L.rconf i).2.1, (L.rconf i).2.2, true, d, none⟩, L.E.drop (i - L.S.ix).toNat, true, none⟩
theorem RComp_no (L : PLog) (hL : L.ok) (i : Int) (hi : I64 i) (dz : Bool) (d : List Nat) (dc : Option Nat) (hno : i ≤ L.S.ix ∨ L.last < i) : CallS Try.prog base 55 [.c (.ptr 0 0), .c (.p (.int .i64 i)), .c (.p (.tz dz 1 (byP d) dc))] L.h (.c (.p (.bs false))) L.h := by
  refine CallS.of noNG lRComp.2 rfl (M.start (M.go rfl ?_))
  refine M.dec rfl (fun h2 => ?_) (fun h2 => ?_)
  · refine M.go rfl ?_
    exact M.ret (M.go rfl (M.done (finQ.ret [(0, 0)] rfl rfl rfl (by first | exact Wk.rfl | exact Wk.uncap | exact Wk.nil | exact Wk.b1 rfl | exact Wk.t2 Wk.rfl (Wk.b1 rfl)) (by repeat' (first | exact True.intro | refine ⟨⟨_, _, _, rfl, rfl, rfl, WkO.rfl⟩, ?_⟩ | refine HeapOK.acc rfl rfl ?_)))))
  refine M.go rfl ?_
  refine M.use (by first | exact True.intro | exact rfl) (RLast_spec L hL) [(0, 0)] rfl rfl rfl (by repeat' (first | exact True.intro | refine ⟨⟨_, _, _, rfl, rfl, rfl, WkO.rfl⟩, ?_⟩ | refine HeapOK.acc rfl rfl ?_)) rfl rfl ?_
  refine M.go rfl ?_
  refine M.cond rfl (fun h3 => ?_) (fun h3 => absurd hno (by omega))
  refine M.go rfl ?_
  exact M.ret (M.go rfl (M.done (finQ.ret [(0, 0)] rfl rfl rfl (by first | exact Wk.rfl | exact Wk.uncap | exact Wk.nil | exact Wk.b1 rfl | exact Wk.t2 Wk.rfl (Wk.b1 rfl)) (by repeat' (first | exact True.intro | refine ⟨⟨_, _, _, rfl, rfl, rfl, WkO.rfl⟩, ?_⟩ | refine HeapOK.acc rfl rfl ?_)))))
theorem RComp_yes (L : PLog) (hL : L.ok) (i : Int) (hi : I64 i) (dz : Bool) (d : List Nat) (dc : Option Nat) (hd : okB d) (h1 : L.S.ix < i) (h3 : i ≤ L.last) : CallS Try.prog base 55 [.c (.ptr 0 0), .c (.p (.int .i64 i)), .c (.p (.tz dz 1 (byP d) dc))] L.h (.c (.p (.bs true))) (L.rcompact i d).h := by
  have hlen := hL.len
  have hix := hL.ix
  refine CallS.of noNG lRComp.2 rfl (M.start (M.go rfl ?_))
  refine M.dec rfl (fun h2 => absurd h2 (by omega)) (fun h2 => ?_)
  refine M.go rfl ?_
  refine M.use (by first | exact True.intro | exact rfl) (RLast_spec L hL) [(0, 0)] rfl rfl rfl (by repeat' (first | exact True.intro | refine ⟨⟨_, _, _, rfl, rfl, rfl, WkO.rfl⟩, ?_⟩ | refine HeapOK.acc rfl rfl ?_)) rfl rfl ?_
  refine M.go rfl ?_
  refine M.cond rfl (fun h4 => absurd h4 (by omega)) (fun h4 => ?_)
  refine M.go rfl ?_
  refine M.use (by first | exact True.intro | exact rfl) (RTerm_spec L hL i hi) [(0, 0)] rfl rfl rfl (by repeat' (first | exact True.intro | refine ⟨⟨_, _, _, rfl, rfl, rfl, WkO.rfl⟩, ?_⟩ | refine HeapOK.acc rfl rfl ?_)) rfl rfl ?_
  refine M.go rfl ?_
  refine M.use (by first | exact True.intro | exact rfl) (RConfAt_spec L hL i) [(0, 0)] rfl rfl rfl (by repeat' (first | exact True.intro | refine ⟨⟨_, _, _, rfl, rfl, rfl, WkO.rfl⟩, ?_⟩ | refine HeapOK.acc rfl rfl ?_)) rfl rfl ?_
  refine M.go rfl ?_
  obtain ⟨T, hT⟩ : ∃ T, T = L.E.drop (i - L.S.ix).toNat := ⟨_, rfl⟩
  have hTl : T.length ≤ 10000000000 := by rw [hT]; simp; omega
  have hw : IntKind.i64.wrap (i - L.S.ix) = i - L.S.ix := wr64 (by omega) (by have := hi.2; omega)
  have hle : (i - L.S.ix).toNat ≤ (entP L.E).length := by rw [entP_len]; unfold PLog.last at h3; omega
  refine M.midV [(0, .c (.ptr 0 0)), (1, .c (.p (.int .i64 i))), (2, .c (.p (.tz dz 1 (byP d) dc))), (7, .c (.p (.int .i64 (L.term i).1))), (9, rconfV (L.rconf i)), (10, .c (.p (.tz true 4 (entP T) none)))] ⟨[(0, some (.row L.row true))], 1⟩ ?_ ?_
  · refine M.regD (MD.go rfl ?_)
    rw [hw]
    refine MD.op trivial (SOp.sl rfl ⟨_, _, rfl, by omega, rfl⟩ rfl hle (Nat.le_refl _)) (MD.go rfl ?_)
    rw [drop_take, ← hT]
    cases T with
    | nil =>
      refine MD.op trivial (SOp.app0 rfl rfl .tz (.inr ⟨_, _, _, _, rfl⟩)) (MD.go rfl (MD.nil mixed (Fnl.nodup rfl) (M.done ⟨rfl, ?_⟩)))
      exact Sh.ren [(0, 0)] rfl (by repeat' (first | exact True.intro | refine ⟨⟨_, _, rfl, rfl, Wk.rfl⟩, ?_⟩ | refine ⟨⟨_, _, accV_ren rfl, rfl, Wk.rfl⟩, ?_⟩ | refine ⟨⟨_, _, accV_ren rfl, rfl, Wk.acc0⟩, ?_⟩ | refine ⟨⟨_, _, rfl, rfl, Wk.uncap⟩, ?_⟩ | refine ⟨⟨_, _, rfl, rfl, Wk.nil⟩, ?_⟩)) (by repeat' (first | exact True.intro | refine ⟨⟨_, _, _, rfl, rfl, rfl, WkO.rfl⟩, ?_⟩ | refine HeapOK.acc rfl rfl ?_))
    | cons t T =>
      refine MD.op trivial (SOp.appN rfl rfl .tz (by simp [entP]) (by rw [entP_len]; omega)) (MD.go rfl (MD.nil mixed (Fnl.nodup rfl) (M.done ⟨rfl, ?_⟩)))
      exact Sh.freezeN (i := 10) rfl rfl rfl (Sh.wk (i := 10) (v' := .c (.p (.tz true 4 (entP (t :: T)) none))) rfl (Wk.some (by simp [entP])) (Sh.ren [(0, 0)] rfl (by repeat' (first | exact True.intro | refine ⟨⟨_, _, rfl, rfl, Wk.rfl⟩, ?_⟩ | refine ⟨⟨_, _, accV_ren rfl, rfl, Wk.rfl⟩, ?_⟩ | refine ⟨⟨_, _, accV_ren rfl, rfl, Wk.acc0⟩, ?_⟩ | refine ⟨⟨_, _, rfl, rfl, Wk.uncap⟩, ?_⟩ | refine ⟨⟨_, _, rfl, rfl, Wk.nil⟩, ?_⟩)) (by repeat' (first | exact True.intro | refine ⟨⟨_, _, _, rfl, rfl, rfl, WkO.rfl⟩, ?_⟩ | refine HeapOK.acc rfl rfl ?_))))
  · refine M.go rfl ?_
    refine M.appNF trivial rfl rfl .tz (by rw [byP_len]; have := hd.1; omega) ?_
    refine M.go rfl ?_
    rw [show (L.rcompact i d).h = ⟨[(0, some (.row [.p (.int .i64 i), .p (.int .i64 (L.term i).1), .p (.tz (L.rconf i).1 1 (inP (L.rconf i).2.1) (L.rconf i).2.2), .p (.tz true 1 (byP d) none), .p (.tz true 4 (entP T) none)] true))], 1⟩ by rw [hT]; rfl]
    exact M.ret (M.go rfl (M.done (finQ.ret [(0, 0)] rfl rfl rfl (by first | exact Wk.rfl | exact Wk.uncap | exact Wk.nil | exact Wk.b1 rfl | exact Wk.t2 Wk.rfl (Wk.b1 rfl)) (by repeat' (first | exact True.intro | refine ⟨⟨_, _, _, rfl, rfl, rfl, WkO.rfl⟩, ?_⟩ | refine HeapOK.acc rfl rfl ?_)))))
/-! Reset. -/
noncomputable def lRReset : {F : LF // lowerF Try.prog 57 = some F} := ⟨_, rfl⟩
def PLog.rreset (L : PLog) (s : Snp) : PLog := if L.keeps s = true then ⟨s, L.E.drop (s.ix - L.S.ix).toNat, true, none⟩ else ⟨s, [], true, none⟩
theorem RReset_spec (L : PLog) (hL : L.ok) (s : Snp) (hs : s.ok) : CallS Try.prog base 57 [.c (.ptr 0 0), s.v] L.h (.tup []) (L.rreset s).h := by
  have hlen := hL.len
  have hix := hL.ix
  refine CallS.of noNG lRReset.2 rfl (M.start (M.go rfl ?_))
  refine M.use (by first | exact True.intro | exact rfl) (RTerm_spec L hL s.ix hs.ix) [(0, 0)] rfl rfl rfl (by repeat' (first | exact True.intro | refine ⟨⟨_, _, _, rfl, rfl, rfl, WkO.rfl⟩, ?_⟩ | refine HeapOK.acc rfl rfl ?_)) rfl rfl ?_
  refine M.go rfl ?_
  have no : L.keeps s = false → (L.rreset s).h = ⟨[(0, some (.row [.p (.int .i64 s.ix), .p (.int .i64 s.tm), .p (.tz s.cz 1 (inP s.cf) s.cc), .p (.tz s.dz 1 (byP s.d) s.dc), .p (.tz true 4 (entP []) none)] true))], 1⟩ := fun h => by rw [PLog.rreset, if_neg (by rw [h]; simp)]; rfl
  refine M.decC (s := 5) rfl (fun h1 => ?_) (fun h1 => ?_)
  · refine M.regD (MD.go rfl ?_)
    refine MD.dec rfl rfl rfl (fun h2 => ?_) (fun h2 => ?_)
    · refine MD.go rfl (MD.nil mixed (Fnl.nodup rfl) (M.go rfl ?_))
      refine M.cond rfl (fun h3 => ?_) (fun h3 => ?_)
      · refine M.go rfl ?_
        have h4 := PLog.term_true h1 h3
        obtain ⟨T, hT⟩ : ∃ T, T = L.E.drop (s.ix - L.S.ix).toNat := ⟨_, rfl⟩
        have hTl : T.length ≤ 10000000000 := by rw [hT]; simp; omega
        have hw : IntKind.i64.wrap (s.ix - L.S.ix) = s.ix - L.S.ix := wr64 (by omega) (by have := hs.ix.2; omega)
        have hle : (s.ix - L.S.ix).toNat ≤ (entP L.E).length := by rw [entP_len]; unfold PLog.last at h4; omega
        have hk : (L.rreset s).h = ⟨[(0, some (.row [.p (.int .i64 s.ix), .p (.int .i64 s.tm), .p (.tz s.cz 1 (inP s.cf) s.cc), .p (.tz s.dz 1 (byP s.d) s.dc), .p (.tz true 4 (entP T) none)] true))], 1⟩ := by rw [PLog.rreset, if_pos (by rw [PLog.keeps, h1, h2]; simp [h3]), hT]; rfl
        refine M.midV [(0, .c (.ptr 0 0)), (3, .c (.ptr 1 0)), (6, .c (.p (.tz true 4 (entP T) none)))] ⟨[(1, some (.row (s.cs.map XC.p) true)), (0, some (.row L.row true))], 2⟩ ?_ ?_
        · refine M.regD (MD.go rfl ?_)
          rw [hw]
          refine MD.op trivial (SOp.sl rfl ⟨_, _, rfl, by omega, rfl⟩ rfl hle (Nat.le_refl _)) (MD.go rfl ?_)
          rw [drop_take, ← hT]
          cases T with
          | nil =>
            refine MD.op trivial (SOp.app0 rfl rfl .tz (.inr ⟨_, _, _, _, rfl⟩)) (MD.go rfl (MD.nil mixed (Fnl.nodup rfl) (M.done ⟨rfl, ?_⟩)))
            exact Sh.ren [(0, 0), (1, 1)] rfl (by repeat' (first | exact True.intro | refine ⟨⟨_, _, rfl, rfl, Wk.rfl⟩, ?_⟩ | refine ⟨⟨_, _, accV_ren rfl, rfl, Wk.rfl⟩, ?_⟩ | refine ⟨⟨_, _, accV_ren rfl, rfl, Wk.acc0⟩, ?_⟩ | refine ⟨⟨_, _, rfl, rfl, Wk.uncap⟩, ?_⟩ | refine ⟨⟨_, _, rfl, rfl, Wk.nil⟩, ?_⟩)) (by repeat' (first | exact True.intro | refine ⟨⟨_, _, _, rfl, rfl, rfl, WkO.rfl⟩, ?_⟩ | refine HeapOK.acc rfl rfl ?_))
          | cons t T =>
            refine MD.op trivial (SOp.appN rfl rfl .tz (by simp [entP]) (by rw [entP_len]; omega)) (MD.go rfl (MD.nil mixed (Fnl.nodup rfl) (M.done ⟨rfl, ?_⟩)))
            exact Sh.freezeN (i := 6) rfl rfl rfl (Sh.wk (i := 6) (v' := .c (.p (.tz true 4 (entP (t :: T)) none))) rfl (Wk.some (by simp [entP])) (Sh.ren [(0, 0), (1, 1)] rfl (by repeat' (first | exact True.intro | refine ⟨⟨_, _, rfl, rfl, Wk.rfl⟩, ?_⟩ | refine ⟨⟨_, _, accV_ren rfl, rfl, Wk.rfl⟩, ?_⟩ | refine ⟨⟨_, _, accV_ren rfl, rfl, Wk.acc0⟩, ?_⟩ | refine ⟨⟨_, _, rfl, rfl, Wk.uncap⟩, ?_⟩ | refine ⟨⟨_, _, rfl, rfl, Wk.nil⟩, ?_⟩)) (by repeat' (first | exact True.intro | refine ⟨⟨_, _, _, rfl, rfl, rfl, WkO.rfl⟩, ?_⟩ | refine HeapOK.acc rfl rfl ?_))))
        · refine M.go rfl ?_
          rw [hk]
          exact M.done (finQ.normal [(0, 0)] rfl rfl rfl Wk.rfl (by repeat' (first | exact True.intro | refine ⟨⟨_, _, _, rfl, rfl, rfl, WkO.rfl⟩, ?_⟩ | refine HeapOK.acc rfl rfl ?_)))
      · refine M.go rfl ?_
        rw [no (by rw [PLog.keeps, h1]; simp; omega)]
        exact M.done (finQ.normal [(0, 0)] rfl rfl rfl Wk.rfl ⟨⟨_, _, _, rfl, rfl, rfl, WkO.row ⟨Wk.rfl, Wk.rfl, Wk.rfl, Wk.rfl, Wk.nil, trivial⟩⟩, trivial⟩)
    · refine MD.go rfl (MD.nil mixed (Fnl.nodup rfl) (M.go rfl ?_))
      rw [no (by rw [PLog.keeps, decide_eq_false h2]; simp)]
      exact M.done (finQ.normal [(0, 0)] rfl rfl rfl Wk.rfl ⟨⟨_, _, _, rfl, rfl, rfl, WkO.row ⟨Wk.rfl, Wk.rfl, Wk.rfl, Wk.rfl, Wk.nil, trivial⟩⟩, trivial⟩)
  · refine M.regD (MD.go rfl (MD.nil mixed (Fnl.nodup rfl) (M.go rfl ?_)))
    rw [no (by rw [PLog.keeps, h1]; simp)]
    exact M.done (finQ.normal [(0, 0)] rfl rfl rfl Wk.rfl ⟨⟨_, _, _, rfl, rfl, rfl, WkO.row ⟨Wk.rfl, Wk.rfl, Wk.rfl, Wk.rfl, Wk.nil, trivial⟩⟩, trivial⟩)
end Go.Proofs.Yteegdhfekemhmaa

/- delphilaw20: what is cut of snapshots and entries; two logs that hold the same. -/
namespace Go.Proofs.Yteegdhfekemhmaa
open Go.RowKit Sim Go Sym
set_option maxRecDepth 100000
set_option linter.unusedVariables false
set_option linter.unusedSimpArgs false
variable {base : Nat}
noncomputable def lCs : {F : LF // lowerF Try.prog 50 = some F} := ⟨_, rfl⟩
def Snp.cut (s : Snp) : Snp := if mayI s.cf = true then ⟨s.ix, s.tm, s.cz, s.cf, s.cc, s.dz, s.d.take 300, none⟩ else ⟨s.ix, s.tm, true, [], none, s.dz, s.d.take 300, none⟩
theorem byP_take (l : List Nat) (n : Nat) : (byP l).take n = byP (l.take n) := by simp [byP, List.map_take]
theorem CutSnap_spec (s : Snp) (hs : s.cf.length ≤ 100000000000000) : CallS Try.prog base 50 [s.v] ⟨[], 0⟩ s.cut.v ⟨[], 0⟩ := by
  refine CallS.of noNG lCs.2 rfl (M.start (M.go rfl ?_))
  refine M.use0 trivial (short_spec s.dz (byP s.d) s.dc 300 (by omega)) rfl rfl rfl ?_
  refine M.go rfl ?_
  rw [byP_take]
  refine M.use0 trivial (mbr_spec s.cz s.cc s.cf hs) rfl rfl rfl ?_
  refine M.go rfl ?_
  refine M.condB rfl (fun h => ?_) (fun h => ?_)
  · refine M.go rfl ?_
    rw [show s.cut = ⟨s.ix, s.tm, true, [], none, s.dz, s.d.take 300, none⟩ from if_neg (by simpa using h)]
    exact M.ret (M.go rfl (M.done (finQ.ret [] rfl rfl rfl (Wk.agg ⟨Wk.rfl, Wk.rfl, Wk.nil, Wk.rfl, trivial⟩) (by repeat' (first | exact True.intro | refine ⟨⟨_, _, _, rfl, rfl, rfl, WkO.rfl⟩, ?_⟩ | refine HeapOK.acc rfl rfl ?_)))))
  · refine M.go rfl ?_
    rw [show s.cut = ⟨s.ix, s.tm, s.cz, s.cf, s.cc, s.dz, s.d.take 300, none⟩ from if_pos (by simpa using h)]
    exact M.ret (M.go rfl (M.done (finQ.ret [] rfl rfl rfl (by first | exact Wk.rfl | exact Wk.uncap | exact Wk.nil | exact Wk.b1 rfl | exact Wk.t2 Wk.rfl (Wk.b1 rfl)) (by repeat' (first | exact True.intro | refine ⟨⟨_, _, _, rfl, rfl, rfl, WkO.rfl⟩, ?_⟩ | refine HeapOK.acc rfl rfl ?_)))))
noncomputable def lCe : {F : LF // lowerF Try.prog 51 = some F} := ⟨_, rfl⟩
def Ent.cut (e : Ent) : Ent := ⟨e.ix, e.tm, e.kd, e.z, e.d.take 60, none⟩
def cutEs (l : List Ent) (n : Nat) : List Ent := (l.take n).map Ent.cut
theorem ce_loop (z : Bool) (c : Option Nat) (l : List Ent) (n : Nat) (hl : l.length ≤ 100000000000000) (hn : n ≤ 1000) (Q : QX) (hq : Q (.exit 0) [(5, accV 0 4 (entP (cutEs l n)))] ⟨[(0, accO 4 (entP (cutEs l n)))], 1⟩) :
    ∀ (rest pre : List Ent), l = pre ++ rest → pre.length ≤ n → XH Try.prog base lCe.1.n 0 (lCe.1.c.lp 0) [(0, .c (.p (.tz z 4 (entP l) c))), (1, .c (.p (.int .i64 n))), (6, .c (.p (.int .i64 pre.length))), (5, accV 0 4 (entP (pre.map Ent.cut)))] ⟨[(0, accO 4 (entP (pre.map Ent.cut)))], 1⟩ Q := by
  intro rest
  induction rest with
  | nil =>
    intro pre hp hn2
    simp at hp
    subst hp
    rw [show cutEs l n = l.map Ent.cut by rw [cutEs, List.take_of_length_le hn2]] at hq
    refine M.round (M.go rfl ?_)
    refine M.dec rfl (fun hc => absurd hc (by rw [entP_len]; omega)) (fun hc => ?_)
    refine M.go rfl ?_
    refine M.ren [(0, 0)] ?_ trivial rfl (by repeat' (first | exact True.intro | refine ⟨⟨_, _, rfl, rfl, Wk.rfl⟩, ?_⟩ | refine ⟨⟨_, _, accV_ren rfl, rfl, Wk.rfl⟩, ?_⟩ | refine ⟨⟨_, _, accV_ren rfl, rfl, Wk.acc0⟩, ?_⟩ | refine ⟨⟨_, _, rfl, rfl, Wk.uncap⟩, ?_⟩ | refine ⟨⟨_, _, rfl, rfl, Wk.nil⟩, ?_⟩)) (by repeat' (first | exact True.intro | refine ⟨⟨_, _, _, rfl, rfl, rfl, WkO.rfl⟩, ?_⟩ | refine HeapOK.acc rfl rfl ?_)) (e' := [(5, accV 0 4 (entP (l.map Ent.cut)))]) (h' := ⟨[(0, accO 4 (entP (l.map Ent.cut)))], 1⟩)
    exact M.exit (M.go rfl (M.done hq))
  | cons e rest ih =>
    intro pre hp hn2
    have hlen : (entP l).length = pre.length + (rest.length + 1) := by rw [hp]; simp [entP]
    have hu : (entP l)[((pre.length : Int)).toNat]? = some e.pc := by rw [hp]; exact at_app _ _ _ _
    refine M.round (M.go rfl ?_)
    refine M.dec rfl (fun hc => ?_) (fun hc => absurd (by omega) hc)
    refine M.go rfl ?_
    refine M.cond rfl (fun hc => ?_) (fun hc => ?_)
    · refine M.go rfl ?_
      refine M.op trivial (SOp.ia rfl rfl (by omega) hu) ?_
      refine M.op trivial (SOp.ldne rfl hu rfl rfl rfl) ?_
      refine M.go rfl ?_
      refine M.use0 trivial (short_spec e.z (byP e.d) e.c 60 (by omega)) rfl rfl rfl ?_
      refine M.go rfl ?_
      rw [byP_take]
      have hla : (entP (pre.map Ent.cut)).length = pre.length := by simp [entP]
      refine M.acc trivial rfl rfl rfl (.own rfl rfl) (by simp) (by rw [hla]; simp; omega) ?_
      refine M.go rfl ?_
      have hw2 : IntKind.i64.wrap ((pre.length : Int) + 1) = ((pre ++ [e]).length : Int) := by rw [wr64 (by omega) (by omega)]; simp
      rw [hw2]
      have ih' := ih (pre ++ [e]) (by rw [hp]; simp) (by simp; omega)
      rw [show entP ((pre ++ [e]).map Ent.cut) = entP (pre.map Ent.cut) ++ [e.cut.pc] by simp [entP]] at ih'
      exact M.again (XH.ren [(0, 3)] ih' rfl (by repeat' (first | exact True.intro | refine ⟨⟨_, _, rfl, rfl, Wk.rfl⟩, ?_⟩ | refine ⟨⟨_, _, accV_ren rfl, rfl, Wk.rfl⟩, ?_⟩ | refine ⟨⟨_, _, accV_ren rfl, rfl, Wk.acc0⟩, ?_⟩ | refine ⟨⟨_, _, rfl, rfl, Wk.uncap⟩, ?_⟩ | refine ⟨⟨_, _, rfl, rfl, Wk.nil⟩, ?_⟩)) (by repeat' (first | exact True.intro | refine ⟨⟨_, _, _, rfl, rfl, rfl, WkO.rfl⟩, ?_⟩ | refine HeapOK.acc rfl rfl ?_)))
    · have : pre.length = n := by omega
      rw [show cutEs l n = pre.map Ent.cut by rw [cutEs, hp, ← this]; simp] at hq
      refine M.go rfl ?_
      refine M.ren [(0, 0)] ?_ trivial rfl (by repeat' (first | exact True.intro | refine ⟨⟨_, _, rfl, rfl, Wk.rfl⟩, ?_⟩ | refine ⟨⟨_, _, accV_ren rfl, rfl, Wk.rfl⟩, ?_⟩ | refine ⟨⟨_, _, accV_ren rfl, rfl, Wk.acc0⟩, ?_⟩ | refine ⟨⟨_, _, rfl, rfl, Wk.uncap⟩, ?_⟩ | refine ⟨⟨_, _, rfl, rfl, Wk.nil⟩, ?_⟩)) (by repeat' (first | exact True.intro | refine ⟨⟨_, _, _, rfl, rfl, rfl, WkO.rfl⟩, ?_⟩ | refine HeapOK.acc rfl rfl ?_)) (e' := [(5, accV 0 4 (entP (pre.map Ent.cut)))]) (h' := ⟨[(0, accO 4 (entP (pre.map Ent.cut)))], 1⟩)
      exact M.exit (M.go rfl (M.done hq))
theorem CutEntries_spec (z : Bool) (c : Option Nat) (l : List Ent) (n : Nat) (hl : l.length ≤ 100000000000000) (hn : n ≤ 1000) : CallS Try.prog base 51 [.c (.p (.tz z 4 (entP l) c)), .c (.p (.int .i64 n))] ⟨[], 0⟩ (.c (.p (.tz true 4 (entP (cutEs l n)) none))) ⟨[], 0⟩ := by
  refine CallS.of noNG lCe.2 rfl (M.start (M.go rfl ?_))
  refine M.loop (XH.ren [(0, 0)] (ce_loop z c l n hl hn _ ?_ l [] rfl (by simp)) rfl (by repeat' (first | exact True.intro | refine ⟨⟨_, _, rfl, rfl, Wk.rfl⟩, ?_⟩ | refine ⟨⟨_, _, accV_ren rfl, rfl, Wk.rfl⟩, ?_⟩ | refine ⟨⟨_, _, accV_ren rfl, rfl, Wk.acc0⟩, ?_⟩ | refine ⟨⟨_, _, rfl, rfl, Wk.uncap⟩, ?_⟩ | refine ⟨⟨_, _, rfl, rfl, Wk.nil⟩, ?_⟩)) (by repeat' (first | exact True.intro | refine ⟨⟨_, _, _, rfl, rfl, rfl, WkO.rfl⟩, ?_⟩ | refine HeapOK.acc rfl rfl ?_)))
  refine M.q (M.go rfl ?_)
  refine M.accF (i := 4) rfl rfl ?_
  exact M.ret (M.go rfl (M.done (finQ.ret [] rfl rfl rfl (by first | exact Wk.rfl | exact Wk.uncap | exact Wk.nil | exact Wk.b1 rfl | exact Wk.t2 Wk.rfl (Wk.b1 rfl)) (by repeat' (first | exact True.intro | refine ⟨⟨_, _, _, rfl, rfl, rfl, WkO.rfl⟩, ?_⟩ | refine HeapOK.acc rfl rfl ?_)))))
/-! Two logs that hold the same. -/
def Ent.key (e : Ent) : Int × Int × Int × List Nat := (e.ix, e.tm, e.kd, e.d)
theorem key_iff {e f : Ent} : e.key = f.key ↔ e.ix = f.ix ∧ e.tm = f.tm ∧ e.kd = f.kd ∧ e.d = f.d := by simp [Ent.key]
theorem key_own (e : Ent) : e.own.key = e.key := rfl
theorem keys_own (l : List Ent) : (l.map Ent.own).map Ent.key = l.map Ent.key := by simp [Function.comp_def, key_own]
theorem eqv_of {e f : Ent} (h : e.key = f.key) : e.eqv f = true := by
  obtain ⟨h1, h2, h3, h4⟩ := key_iff.1 h
  simp [Ent.eqv, h1, h2, h3, h4, eqL_iff]
theorem eqvL_of : ∀ {l r : List Ent}, l.map Ent.key = r.map Ent.key → eqvL l r = true
  | [], [], _ => rfl
  | [], _ :: _, h => by simp at h
  | _ :: _, [], h => by simp at h
  | e :: l, f :: r, h => by
    simp only [List.map_cons, List.cons.injEq] at h
    simp [eqvL, eqv_of h.1, eqvL_of h.2]
theorem memB_inc : ∀ (l : List Nat) (p : Nat), memB p l = incB p (nI l)
  | [], _ => rfl
  | b :: l, p => by
    rw [nI, List.map_cons, memB, incB, memB_inc l b]
    simp only [nI, Int.ofNat_lt, show ((b : Int) ≤ 7) ↔ b ≤ 7 by omega]
theorem natI_mem (l : List Nat) : natI (memL l) = selI (nI l) := by
  rw [memL, selI, mayI, memB_inc]
  cases h : incB 0 (nI l) with
  | false => simp [natI, show incB ((0 : Nat) : Int) (nI l) = false from h]
  | true => cases l <;> simp [natI, nI, show incB ((0 : Nat) : Int) _ = true from h]
theorem memL_emp (l : List Nat) : (memL l).isEmpty = (selI (nI l)).isEmpty := by rw [← natI_mem, natI]; simp
theorem may_good : ∀ (l : List Ent) (i t : Int), -1 ≤ i → i + l.length ≤ 9000000000000000000 → mayF i t l = goodF i t l
  | [], _, _, _, _ => rfl
  | e :: l, i, t, h0, h => by
    simp only [List.length_cons] at h
    rw [mayF, goodF, wr64 (by omega) (by omega), decide_eq_false (show ¬ i = 9223372036854775807 by omega)]
    by_cases he : e.ix = i + 1
    · rw [entB, entG, memL_emp, may_good l (i + 1) e.tm (by omega) (by omega)]; rfl
    · simp [entB, entG, he, wr64 (show -9223372036854775808 ≤ i + 1 by omega) (by omega)]
theorem good_key : ∀ {l r : List Ent} {i t : Int}, l.map Ent.key = r.map Ent.key → goodF i t l = goodF i t r
  | [], [], _, _, _ => rfl
  | [], _ :: _, _, _, h => by simp at h
  | _ :: _, [], _, _, h => by simp at h
  | e :: l, f :: r, i, t, h => by
    simp only [List.map_cons, List.cons.injEq] at h
    obtain ⟨h1, h2, h3, h4⟩ := key_iff.1 h.1
    rw [goodF, goodF, entG, entG, h1, h2, h3, h4, good_key h.2]
theorem good_seq : ∀ {l : List Ent} {i t : Int}, -1 ≤ i → i + l.length ≤ 9000000000000000000 → goodF i t l = true → ∀ j, j < l.length → (l.getD j default).ix = i + j + 1
  | [], _, _, _, _, _, j, hj => by simp at hj
  | e :: l, i, t, h0, h, hg, j, hj => by
    simp only [List.length_cons] at h hj
    rw [goodF, Bool.and_eq_true, wr64 (by omega) (by omega)] at hg
    have he : e.ix = i + 1 := by
      have := hg.1
      simp [entG, wr64 (show -9223372036854775808 ≤ i + 1 by omega) (by omega)] at this
      have h2 := this.1
      first | exact h2 | omega
    cases j with
    | zero => simpa using he
    | succ j =>
      have := good_seq (by omega) (by omega) hg.2 j (by omega)
      simp only [List.getD_cons_succ]
      rw [this]; omega
structure Rel (B : Nat) (L R : PLog) : Prop where
  hL : L.ok
  hR : R.ok
  ix : L.S.ix = R.S.ix
  tm : L.S.tm = R.S.tm
  cf : L.S.cf = R.S.cf
  d : L.S.d = R.S.d
  E : L.E.map Ent.key = R.E.map Ent.key
  seq : ∀ j : Nat, j < L.E.length → (L.E.getD j default).ix = L.S.ix + j + 1
  len : L.E.length ≤ B
  top : L.last ≤ 1125899906842624 + B
variable {B : Nat} {L R : PLog}
theorem Rel.lenE (h : Rel B L R) : R.E.length = L.E.length := by have := congrArg List.length h.E; simpa using this.symm
theorem Rel.lastE (h : Rel B L R) : R.last = L.last := by rw [PLog.last, PLog.last, h.lenE, h.ix]
theorem Rel.at_ (h : Rel B L R) (j : Nat) (hj : j < L.E.length) : (L.E.getD j default).key = (R.E.getD j default).key := by
  have h1 : (L.E.map Ent.key)[j]? = (R.E.map Ent.key)[j]? := by rw [h.E]
  have hj' : j < R.E.length := by rw [h.lenE]; exact hj
  simpa [List.getD, hj, hj'] using h1
theorem Rel.at' (h : Rel B L R) (i : Int) (h1 : L.S.ix < i) (h2 : i ≤ L.last) : (L.at' i).key = (R.at' i).key := by
  rw [PLog.at', PLog.at', ← h.ix]
  exact h.at_ _ (by unfold PLog.last at h2; omega)
theorem Rel.term (h : Rel B L R) (i : Int) : L.term i = R.term i := by
  rw [PLog.term, PLog.term, h.lastE, ← h.ix, ← h.tm]
  split
  · rfl
  · split
    · rfl
    · rw [(key_iff.1 (h.at' i (by omega) (by omega))).2.1]
theorem Rel.keeps (h : Rel B L R) (s : Snp) : L.keeps s = R.keeps s := by rw [PLog.keeps, PLog.keeps, h.term, h.ix]
theorem Rel.confN (h : Rel B L R) : ∀ (m k : Nat), k ≤ m → m ≤ L.E.length → (L.confN k).2 = (R.rconfN (L.S.ix + k) m).2.1
  | 0, k, hk, hm => by
    obtain rfl : k = 0 := by omega
    rw [PLog.confN, PLog.rconfN]; exact h.cf
  | m + 1, k, hk, hm => by
    obtain ⟨e1, e2, e3, e4⟩ := key_iff.1 (h.at_ m (by omega))
    have hs := h.seq m (by omega)
    rw [PLog.rconfN]
    by_cases hkm : k = m + 1
    · subst hkm
      rw [PLog.confN]
      by_cases h3 : (L.E.getD m default).kd = 3
      · rw [if_pos h3, if_pos ⟨e3 ▸ h3, by rw [← e1, hs]; push_cast; omega⟩, ← e4]
        exact natI_mem _
      · rw [if_neg h3, if_neg (fun x => h3 (e3 ▸ x.1))]
        have := Rel.confN h m m (Nat.le_refl _) (by omega)
        rw [this]
        have key : ∀ n, n ≤ m → R.rconfN (L.S.ix + (m : Int)) n = R.rconfN (L.S.ix + ((m + 1 : Nat) : Int)) n := by
          intro n
          induction n with
          | zero => intro _; rfl
          | succ n ih =>
            intro hn
            have g1 := key_iff.1 (h.at_ n (by omega))
            have g2 := h.seq n (by omega)
            rw [PLog.rconfN, PLog.rconfN, ih (by omega), ← g1.1, g2]
            have : (L.S.ix + (n : Int) + 1 ≤ L.S.ix + (m : Int)) ↔ (L.S.ix + (n : Int) + 1 ≤ L.S.ix + ((m + 1 : Nat) : Int)) := by omega
            simp only [this]
        rw [key m (Nat.le_refl _)]
    · rw [if_neg (fun x => by have := x.2; rw [← e1, hs] at this; omega)]
      exact Rel.confN h m k (by omega) (by omega)
theorem Rel.conf (h : Rel B L R) (i : Int) : (L.confAt i).2 = (R.rconf i).2.1 := by
  rw [PLog.confAt, PLog.rconf, h.lenE]
  by_cases h1 : i ≤ L.last
  · by_cases h2 : L.S.ix ≤ i
    · have := h.confN L.E.length (i - L.S.ix).toNat (by unfold PLog.last at h1; omega) (Nat.le_refl _)
      rw [Int.min_eq_left h1, this]
      congr 3
      omega
    · have h0 : (min i L.last - L.S.ix).toNat = 0 := by omega
      rw [h0]
      have key : ∀ n, n ≤ L.E.length → (R.rconfN i n).2.1 = R.S.cf := by
        intro n
        induction n with
        | zero => intro _; rfl
        | succ n ih =>
          intro hn
          have g1 := key_iff.1 (h.at_ n (by omega))
          have g2 := h.seq n (by omega)
          rw [PLog.rconfN, if_neg (fun x => by have := x.2; rw [← g1.1, g2] at this; omega)]
          exact ih (by omega)
      rw [key _ (Nat.le_refl _)]; exact h.cf
  · have h0 : (min i L.last - L.S.ix).toNat = L.E.length := by unfold PLog.last at h1 ⊢; omega
    rw [h0, h.confN L.E.length L.E.length (Nat.le_refl _) (Nat.le_refl _)]
    have key : ∀ n, n ≤ L.E.length → R.rconfN (L.S.ix + (L.E.length : Int)) n = R.rconfN i n := by
      intro n
      induction n with
      | zero => intro _; rfl
      | succ n ih =>
        intro hn
        have g1 := key_iff.1 (h.at_ n (by omega))
        have g2 := h.seq n (by omega)
        unfold PLog.last at h1
        rw [PLog.rconfN, PLog.rconfN, ih (by omega), ← g1.1, g2]
        have : (L.S.ix + (n : Int) + 1 ≤ L.S.ix + (L.E.length : Int)) ↔ (L.S.ix + (n : Int) + 1 ≤ i) := by omega
        simp only [this]
    rw [key _ (Nat.le_refl _)]
theorem Rel.slice (h : Rel B L R) (f n : Int) : (L.slice f n).map Ent.key = (R.rslice f n).map Ent.key := by
  rw [PLog.slice, PLog.rslice, h.lastE, ← h.ix]
  split
  · rfl
  · rw [keys_own, List.map_take, List.map_take, List.map_drop, List.map_drop, h.E]
end Go.Proofs.Yteegdhfekemhmaa

/- delphilaw20.same: two logs that hold the same tell the same. -/
namespace Go.Proofs.Yteegdhfekemhmaa
open Go.RowKit Sim Go Sym
set_option maxRecDepth 100000
set_option linter.unusedVariables false
set_option linter.unusedSimpArgs false
variable {base : Nat} {B : Nat} {L R : PLog}
def H2 (L R : PLog) : HS := ⟨[(0, some (.row L.row true)), (1, some (.row R.row true))], 2⟩
noncomputable def lSame : {F : LF // lowerF Try.prog 53 = some F} := ⟨_, rfl⟩
theorem Rel.snap (h : Rel B L R) : L.S.own.eqv R.S = true := by simp [Snp.eqv, Snp.own, h.ix, h.tm, h.cf, h.d, eqL_iff]
theorem selI_len (l : List Int) : (selI l).length ≤ 7 := by
  unfold selI mayI
  split
  · rename_i h
    have := incB_len l 0 (by decide) (by simpa using (Bool.and_eq_true _ _ ▸ h).1)
    omega
  · simp
theorem confAt_len (hL : L.ok) (i : Int) : (L.confAt i).2.length ≤ 100000000000 := by
  rw [PLog.confAt]
  generalize (min i L.last - L.S.ix).toNat = n
  induction n with
  | zero => exact hL.S.cf.1
  | succ n ih =>
    rw [PLog.confN]
    split
    · rw [natI_mem]; have := selI_len (nI (L.E.getD n default).d); simp only; omega
    · exact ih
theorem Rel.get2 (h : Rel B L R) (i k : Int) (hi : i = R.S.ix + k) : (L.get i).2 = (decide (1 ≤ k) && decide (k ≤ R.E.length)) := by
  have := h.lenE
  have h2 := h.ix
  rw [PLog.get]
  unfold PLog.last
  split
  · rename_i h1
    have : ¬ (1 ≤ k ∧ k ≤ (R.E.length : Int)) := by omega
    simp only [← decide_eq_false this, Bool.decide_and]
  · rename_i h1
    have : (1 ≤ k ∧ k ≤ (R.E.length : Int)) := by omega
    simp only [← decide_eq_true this, Bool.decide_and]
theorem Rel.get1 (h : Rel B L R) (i k : Int) (hi : i = R.S.ix + k) (h1 : 1 ≤ k) (h2 : k ≤ R.E.length) : (L.get i).1 = (L.at' i).own ∧ (L.at' i).own.key = (R.at' i).key ∧ (entP R.E)[(k - 1).toNat]? = some (R.at' i).pc ∧ okB (L.at' i).own.d ∧ okB (R.at' i).d := by
  have e1 := h.lenE
  have e2 := h.ix
  have e3 := h.lastE
  have hl : i ≤ L.last := by unfold PLog.last; omega
  obtain ⟨j, g1, g2, g3, g4⟩ := PLog.at_get (L := L) (i := i) (by omega) hl
  obtain ⟨j', k1, k2, k3, k4⟩ := PLog.at_get (L := R) (i := i) (by omega) (by omega)
  refine ⟨by rw [PLog.get, if_neg (by omega)], h.at' i (by omega) hl, ?_, (h.hL.at_ g3).d, (h.hR.at_ k3).d⟩
  rw [← k4]; congr 2; omega
theorem slice_ok (hL : L.ok) (f n : Int) : (∀ e ∈ L.slice f n, e.ok) ∧ (L.slice f n).length ≤ 100000000000 := by
  have := hL.len
  rw [PLog.slice]
  split
  · simp
  · refine ⟨fun e he => ?_, by simp; omega⟩
    obtain ⟨x, hx, rfl⟩ := List.mem_map.1 he
    have := hL.E x (List.mem_of_mem_drop (List.mem_of_mem_take hx))
    exact ⟨this.ix, this.tm, this.kd, this.d⟩
theorem rslice_ok (hL : L.ok) (f n : Int) : (∀ e ∈ L.rslice f n, e.ok) := by
  rw [PLog.rslice]
  split
  · simp
  · exact fun e he => hL.E e (List.mem_of_mem_drop (List.mem_of_mem_take he))
theorem same_loop (h : Rel B L R) (hB : B ≤ 1000) (Q : QX) (hq : Q (.exit 0) [(0, .c (.ptr 0 0)), (1, .c (.ptr 1 0))] (H2 L R)) :
    ∀ (rem : Nat) (k : Int), -1 ≤ k → k + rem = R.E.length + 2 → XH Try.prog base lSame.1.n 2 (lSame.1.c.lp 0) [(0, .c (.ptr 0 0)), (1, .c (.ptr 1 0)), (5, .c (.p (.int .i64 k)))] (H2 L R) Q := by
  have hlen := h.hR.len
  have hlB := h.len
  have htop := h.top
  have hlE := h.lenE
  have hixE := h.ix
  have hix := h.hL.ix
  have hwl : IntKind.i64.wrap ((R.E.length : Int) + 1) = R.E.length + 1 := wr64 (by omega) (by omega)
  intro rem
  induction rem with
  | zero =>
    intro k h0 hk
    refine M.round (M.go rfl ?_)
    rw [entP_len, hwl]
    refine M.cond rfl (fun hc => absurd hc (by omega)) (fun hc => ?_)
    refine M.ren [(0, 0), (1, 1)] ?_ trivial rfl (by repeat' (first | exact True.intro | refine ⟨⟨_, _, rfl, rfl, Wk.rfl⟩, ?_⟩ | refine ⟨⟨_, _, accV_ren rfl, rfl, Wk.rfl⟩, ?_⟩ | refine ⟨⟨_, _, accV_ren rfl, rfl, Wk.acc0⟩, ?_⟩ | refine ⟨⟨_, _, rfl, rfl, Wk.uncap⟩, ?_⟩ | refine ⟨⟨_, _, rfl, rfl, Wk.nil⟩, ?_⟩)) (by repeat' (first | exact True.intro | refine ⟨⟨_, _, _, rfl, rfl, rfl, WkO.rfl⟩, ?_⟩ | refine HeapOK.acc rfl rfl ?_)) (e' := [(0, .c (.ptr 0 0)), (1, .c (.ptr 1 0))]) (h' := H2 L R)
    exact M.exit (M.go rfl (M.done hq))
  | succ rem ih =>
    intro k h0 hk
    have ih' := ih (k + 1) (by omega) (by omega)
    have hwk : IntKind.i64.wrap (k + 1) = k + 1 := wr64 (by omega) (by omega)
    refine M.round (M.go rfl ?_)
    rw [entP_len, hwl]
    refine M.cond rfl (fun hc => ?_) (fun hc => absurd (by omega) hc)
    unfold PLog.last at htop
    have hwi : IntKind.i64.wrap (R.S.ix + k) = R.S.ix + k := wr64 (by omega) (by omega)
    obtain ⟨i, hi⟩ : ∃ i, i = R.S.ix + k := ⟨_, rfl⟩
    have hI : I64 i := ⟨by omega, by omega⟩
    refine M.go rfl ?_
    rw [hwi, ← hi]
    refine M.use (by first | exact True.intro | exact rfl) (Term_spec L h.hL i hI) [(0, 0)] rfl rfl rfl (by repeat' (first | exact True.intro | refine ⟨⟨_, _, _, rfl, rfl, rfl, WkO.rfl⟩, ?_⟩ | refine HeapOK.acc rfl rfl ?_)) rfl rfl ?_
    rw [h.term i]
    refine M.go rfl ?_
    refine M.use (by first | exact True.intro | exact rfl) (RTerm_spec R h.hR i hI) [(0, 1)] rfl rfl rfl (by repeat' (first | exact True.intro | refine ⟨⟨_, _, _, rfl, rfl, rfl, WkO.rfl⟩, ?_⟩ | refine HeapOK.acc rfl rfl ?_)) rfl rfl ?_
    refine M.go rfl ?_
    refine M.use (by first | exact True.intro | exact rfl) (Get_spec L h.hL i hI) [(0, 0)] rfl rfl rfl (by repeat' (first | exact True.intro | refine ⟨⟨_, _, _, rfl, rfl, rfl, WkO.rfl⟩, ?_⟩ | refine HeapOK.acc rfl rfl ?_)) rfl rfl ?_
    rw [h.get2 i k hi]
    refine M.go rfl ?_
    refine M.regD (MD.go rfl ?_)
    refine MD.decN rfl rfl rfl (fun h => absurd rfl h) (fun _ => ?_)
    refine MD.go rfl ?_
    refine MD.decB rfl rfl rfl (fun h => by simp at h) (fun _ => ?_)
    refine MD.go rfl ?_
    by_cases h1 : 1 ≤ k
    · by_cases h2 : k ≤ (R.E.length : Int)
      · obtain ⟨g1, g2, g3, g4, g5⟩ := h.get1 i k hi h1 h2
        have hwk1 : IntKind.i64.wrap (k - 1) = k - 1 := wr64 (by omega) (by omega)
        refine MD.dec rfl rfl rfl (fun _ => ?_) (fun hn => absurd h1 hn)
        refine MD.go rfl ?_
        rw [entP_len]
        refine MD.decB rfl rfl rfl (fun h => by simp [h1, h2] at h) (fun _ => ?_)
        refine MD.go rfl ?_
        refine MD.decB rfl rfl rfl (fun _ => ?_) (fun h => by simp [h1, h2] at h)
        refine MD.go rfl ?_
        rw [hwk1]
        refine MD.op rfl (SOp.ia rfl rfl (by omega) g3) (MD.go rfl ?_)
        refine MD.op rfl (SOp.ldne rfl g3 rfl rfl rfl) (MD.go rfl ?_)
        rw [g1]
        refine MD.use0 rfl (EqEntry_spec (L.at' i).own (R.at' i) g4 g5) rfl rfl rfl ?_
        rw [eqv_of g2]
        refine MD.go rfl ?_
        refine MD.decB rfl rfl rfl (fun h => by simp at h) (fun _ => ?_)
        refine MD.go rfl ?_
        refine MD.use rfl (ConfAt_spec L h.hL i hI) [(0, 0)] rfl rfl rfl (by repeat' (first | exact True.intro | refine ⟨⟨_, _, _, rfl, rfl, rfl, WkO.rfl⟩, ?_⟩ | refine HeapOK.acc rfl rfl ?_)) rfl rfl ?_
        refine MD.go rfl ?_
        refine MD.use rfl (RConfAt_spec R h.hR i) [(0, 1)] rfl rfl rfl (by repeat' (first | exact True.intro | refine ⟨⟨_, _, _, rfl, rfl, rfl, WkO.rfl⟩, ?_⟩ | refine HeapOK.acc rfl rfl ?_)) rfl rfl ?_
        refine MD.go rfl ?_
        refine MD.use0 rfl (EqInts_spec (L.confAt i).1 (R.rconf i).1 none (R.rconf i).2.2 (L.confAt i).2 (R.rconf i).2.1 (confAt_len h.hL i)) rfl rfl rfl ?_
        refine MD.go rfl ?_
        refine MD.decN rfl rfl rfl (fun hn => absurd (h.conf i) hn) (fun _ => ?_)
        refine MD.go rfl ?_
        refine MD.use rfl (Slice_spec L h.hL i 3 hI) [(0, 0)] rfl rfl rfl (by repeat' (first | exact True.intro | refine ⟨⟨_, _, _, rfl, rfl, rfl, WkO.rfl⟩, ?_⟩ | refine HeapOK.acc rfl rfl ?_)) rfl rfl ?_
        refine MD.go rfl ?_
        refine MD.use rfl (RSlice_spec R h.hR i 3 hI) [(0, 1)] rfl rfl rfl (by repeat' (first | exact True.intro | refine ⟨⟨_, _, _, rfl, rfl, rfl, WkO.rfl⟩, ?_⟩ | refine HeapOK.acc rfl rfl ?_)) rfl rfl ?_
        refine MD.go rfl ?_
        refine MD.use0 rfl (EqEntries_spec true true none none (L.slice i 3) (R.rslice i 3) (slice_ok h.hL i 3).2 (slice_ok h.hL i 3).1 (rslice_ok h.hR i 3)) rfl rfl rfl ?_
        rw [eqvL_of (h.slice i 3)]
        refine MD.go rfl (MD.nil mixed (Fnl.nodup rfl) (M.go rfl ?_))
        refine M.condB rfl (fun hn => by simp at hn) (fun _ => ?_)
        refine M.go rfl ?_
        rw [hwk]
        exact M.again (XH.ren [(0, 0), (1, 1)] ih' rfl (by repeat' (first | exact True.intro | refine ⟨⟨_, _, rfl, rfl, Wk.rfl⟩, ?_⟩ | refine ⟨⟨_, _, accV_ren rfl, rfl, Wk.rfl⟩, ?_⟩ | refine ⟨⟨_, _, accV_ren rfl, rfl, Wk.acc0⟩, ?_⟩ | refine ⟨⟨_, _, rfl, rfl, Wk.uncap⟩, ?_⟩ | refine ⟨⟨_, _, rfl, rfl, Wk.nil⟩, ?_⟩)) (by repeat' (first | exact True.intro | refine ⟨⟨_, _, _, rfl, rfl, rfl, WkO.rfl⟩, ?_⟩ | refine HeapOK.acc rfl rfl ?_)))
      · refine MD.dec rfl rfl rfl (fun _ => ?_) (fun hn => absurd h1 hn)
        refine MD.go rfl ?_
        rw [entP_len]
        refine MD.decB rfl rfl rfl (fun h => by simp [h1, h2] at h) (fun _ => ?_)
        refine MD.go rfl ?_
        refine MD.decB rfl rfl rfl (fun h => by simp [h1, h2] at h) (fun _ => ?_)
        refine MD.go rfl ?_
        refine MD.use rfl (ConfAt_spec L h.hL i hI) [(0, 0)] rfl rfl rfl (by repeat' (first | exact True.intro | refine ⟨⟨_, _, _, rfl, rfl, rfl, WkO.rfl⟩, ?_⟩ | refine HeapOK.acc rfl rfl ?_)) rfl rfl ?_
        refine MD.go rfl ?_
        refine MD.use rfl (RConfAt_spec R h.hR i) [(0, 1)] rfl rfl rfl (by repeat' (first | exact True.intro | refine ⟨⟨_, _, _, rfl, rfl, rfl, WkO.rfl⟩, ?_⟩ | refine HeapOK.acc rfl rfl ?_)) rfl rfl ?_
        refine MD.go rfl ?_
        refine MD.use0 rfl (EqInts_spec (L.confAt i).1 (R.rconf i).1 none (R.rconf i).2.2 (L.confAt i).2 (R.rconf i).2.1 (confAt_len h.hL i)) rfl rfl rfl ?_
        refine MD.go rfl ?_
        refine MD.decN rfl rfl rfl (fun hn => absurd (h.conf i) hn) (fun _ => ?_)
        refine MD.go rfl ?_
        refine MD.use rfl (Slice_spec L h.hL i 3 hI) [(0, 0)] rfl rfl rfl (by repeat' (first | exact True.intro | refine ⟨⟨_, _, _, rfl, rfl, rfl, WkO.rfl⟩, ?_⟩ | refine HeapOK.acc rfl rfl ?_)) rfl rfl ?_
        refine MD.go rfl ?_
        refine MD.use rfl (RSlice_spec R h.hR i 3 hI) [(0, 1)] rfl rfl rfl (by repeat' (first | exact True.intro | refine ⟨⟨_, _, _, rfl, rfl, rfl, WkO.rfl⟩, ?_⟩ | refine HeapOK.acc rfl rfl ?_)) rfl rfl ?_
        refine MD.go rfl ?_
        refine MD.use0 rfl (EqEntries_spec true true none none (L.slice i 3) (R.rslice i 3) (slice_ok h.hL i 3).2 (slice_ok h.hL i 3).1 (rslice_ok h.hR i 3)) rfl rfl rfl ?_
        rw [eqvL_of (h.slice i 3)]
        refine MD.go rfl (MD.nil mixed (Fnl.nodup rfl) (M.go rfl ?_))
        refine M.condB rfl (fun hn => by simp at hn) (fun _ => ?_)
        refine M.go rfl ?_
        rw [hwk]
        exact M.again (XH.ren [(0, 0), (1, 1)] ih' rfl (by repeat' (first | exact True.intro | refine ⟨⟨_, _, rfl, rfl, Wk.rfl⟩, ?_⟩ | refine ⟨⟨_, _, accV_ren rfl, rfl, Wk.rfl⟩, ?_⟩ | refine ⟨⟨_, _, accV_ren rfl, rfl, Wk.acc0⟩, ?_⟩ | refine ⟨⟨_, _, rfl, rfl, Wk.uncap⟩, ?_⟩ | refine ⟨⟨_, _, rfl, rfl, Wk.nil⟩, ?_⟩)) (by repeat' (first | exact True.intro | refine ⟨⟨_, _, _, rfl, rfl, rfl, WkO.rfl⟩, ?_⟩ | refine HeapOK.acc rfl rfl ?_)))
    · refine MD.dec rfl rfl rfl (fun hn => absurd hn h1) (fun _ => ?_)
      refine MD.go rfl ?_
      refine MD.decB rfl rfl rfl (fun h => by simp [h1] at h) (fun _ => ?_)
      refine MD.go rfl ?_
      refine MD.decB rfl rfl rfl (fun h => by simp [h1] at h) (fun _ => ?_)
      refine MD.go rfl ?_
      refine MD.use rfl (ConfAt_spec L h.hL i hI) [(0, 0)] rfl rfl rfl (by repeat' (first | exact True.intro | refine ⟨⟨_, _, _, rfl, rfl, rfl, WkO.rfl⟩, ?_⟩ | refine HeapOK.acc rfl rfl ?_)) rfl rfl ?_
      refine MD.go rfl ?_
      refine MD.use rfl (RConfAt_spec R h.hR i) [(0, 1)] rfl rfl rfl (by repeat' (first | exact True.intro | refine ⟨⟨_, _, _, rfl, rfl, rfl, WkO.rfl⟩, ?_⟩ | refine HeapOK.acc rfl rfl ?_)) rfl rfl ?_
      refine MD.go rfl ?_
      refine MD.use0 rfl (EqInts_spec (L.confAt i).1 (R.rconf i).1 none (R.rconf i).2.2 (L.confAt i).2 (R.rconf i).2.1 (confAt_len h.hL i)) rfl rfl rfl ?_
      refine MD.go rfl ?_
      refine MD.decN rfl rfl rfl (fun hn => absurd (h.conf i) hn) (fun _ => ?_)
      refine MD.go rfl ?_
      refine MD.use rfl (Slice_spec L h.hL i 3 hI) [(0, 0)] rfl rfl rfl (by repeat' (first | exact True.intro | refine ⟨⟨_, _, _, rfl, rfl, rfl, WkO.rfl⟩, ?_⟩ | refine HeapOK.acc rfl rfl ?_)) rfl rfl ?_
      refine MD.go rfl ?_
      refine MD.use rfl (RSlice_spec R h.hR i 3 hI) [(0, 1)] rfl rfl rfl (by repeat' (first | exact True.intro | refine ⟨⟨_, _, _, rfl, rfl, rfl, WkO.rfl⟩, ?_⟩ | refine HeapOK.acc rfl rfl ?_)) rfl rfl ?_
      refine MD.go rfl ?_
      refine MD.use0 rfl (EqEntries_spec true true none none (L.slice i 3) (R.rslice i 3) (slice_ok h.hL i 3).2 (slice_ok h.hL i 3).1 (rslice_ok h.hR i 3)) rfl rfl rfl ?_
      rw [eqvL_of (h.slice i 3)]
      refine MD.go rfl (MD.nil mixed (Fnl.nodup rfl) (M.go rfl ?_))
      refine M.condB rfl (fun hn => by simp at hn) (fun _ => ?_)
      refine M.go rfl ?_
      rw [hwk]
      exact M.again (XH.ren [(0, 0), (1, 1)] ih' rfl (by repeat' (first | exact True.intro | refine ⟨⟨_, _, rfl, rfl, Wk.rfl⟩, ?_⟩ | refine ⟨⟨_, _, accV_ren rfl, rfl, Wk.rfl⟩, ?_⟩ | refine ⟨⟨_, _, accV_ren rfl, rfl, Wk.acc0⟩, ?_⟩ | refine ⟨⟨_, _, rfl, rfl, Wk.uncap⟩, ?_⟩ | refine ⟨⟨_, _, rfl, rfl, Wk.nil⟩, ?_⟩)) (by repeat' (first | exact True.intro | refine ⟨⟨_, _, _, rfl, rfl, rfl, WkO.rfl⟩, ?_⟩ | refine HeapOK.acc rfl rfl ?_)))
theorem same_spec (h : Rel B L R) (hB : B ≤ 1000) : CallS Try.prog base 53 [.c (.ptr 0 0), .c (.ptr 1 0)] (H2 L R) (.c (.p (.bool true))) (H2 L R) := by
  refine CallS.of noNG lSame.2 rfl (M.start (M.go rfl ?_))
  refine M.regF (MF.go rfl ?_)
  refine MF.use rfl (Base_spec L) [(0, 0)] rfl rfl rfl (by repeat' (first | exact True.intro | refine ⟨⟨_, _, _, rfl, rfl, rfl, WkO.rfl⟩, ?_⟩ | refine HeapOK.acc rfl rfl ?_)) rfl rfl (MF.go rfl ?_)
  refine MF.decN rfl rfl rfl (fun hn => absurd h.ix hn) (fun _ => ?_)
  refine MF.go rfl ?_
  refine MF.use rfl (Last_spec L h.hL) [(0, 0)] rfl rfl rfl (by repeat' (first | exact True.intro | refine ⟨⟨_, _, _, rfl, rfl, rfl, WkO.rfl⟩, ?_⟩ | refine HeapOK.acc rfl rfl ?_)) rfl rfl (MF.go rfl ?_)
  refine MF.use rfl (RLast_spec R h.hR) [(0, 1)] rfl rfl rfl (by repeat' (first | exact True.intro | refine ⟨⟨_, _, _, rfl, rfl, rfl, WkO.rfl⟩, ?_⟩ | refine HeapOK.acc rfl rfl ?_)) rfl rfl (MF.go rfl ?_)
  refine MF.decN rfl rfl rfl (fun hn => absurd h.lastE.symm hn) (fun _ => ?_)
  refine MF.go rfl ?_
  refine MF.use rfl (Snap_spec L h.hL) [(0, 0)] rfl rfl rfl (by repeat' (first | exact True.intro | refine ⟨⟨_, _, _, rfl, rfl, rfl, WkO.rfl⟩, ?_⟩ | refine HeapOK.acc rfl rfl ?_)) rfl rfl (MF.go rfl ?_)
  refine MF.use0 rfl (EqSnap_spec L.S.own R.S ⟨h.hL.S.ix, h.hL.S.tm, h.hL.S.cf, h.hL.S.d⟩ h.hR.S) rfl rfl rfl (MF.go rfl ?_)
  refine MF.decB rfl rfl rfl (fun hn => by rw [h.snap] at hn; simp at hn) (fun _ => ?_)
  refine MF.go rfl ?_
  refine MF.use rfl (Conf_spec L h.hL) [(0, 0)] rfl rfl rfl (by repeat' (first | exact True.intro | refine ⟨⟨_, _, _, rfl, rfl, rfl, WkO.rfl⟩, ?_⟩ | refine HeapOK.acc rfl rfl ?_)) rfl rfl (MF.go rfl ?_)
  refine MF.use rfl (RConf_spec R h.hR) [(0, 1)] rfl rfl rfl (by repeat' (first | exact True.intro | refine ⟨⟨_, _, _, rfl, rfl, rfl, WkO.rfl⟩, ?_⟩ | refine HeapOK.acc rfl rfl ?_)) rfl rfl (MF.go rfl ?_)
  refine MF.use0 rfl (EqInts_spec (L.confAt L.last).1 (R.rconf R.last).1 none (R.rconf R.last).2.2 (L.confAt L.last).2 (R.rconf R.last).2.1 (confAt_len h.hL _)) rfl rfl rfl (MF.go rfl ?_)
  refine MF.nil mixed (Fnl.nodup rfl) rfl ⟨⟨stepX_ok rfl, trivial⟩, ⟨stepX_ok rfl, trivial⟩, trivial⟩ (M.go rfl ?_)
  refine M.condN rfl (fun hn => absurd (by rw [h.lastE]; exact h.conf L.last) hn) (fun _ => ?_)
  refine M.go rfl ?_
  refine M.loop (XH.ren [(0, 0), (1, 1)] (same_loop h hB _ ?_ (R.E.length + 3) (-1) (by omega) (by push_cast; omega)) rfl (by repeat' (first | exact True.intro | refine ⟨⟨_, _, rfl, rfl, Wk.rfl⟩, ?_⟩ | refine ⟨⟨_, _, accV_ren rfl, rfl, Wk.rfl⟩, ?_⟩ | refine ⟨⟨_, _, accV_ren rfl, rfl, Wk.acc0⟩, ?_⟩ | refine ⟨⟨_, _, rfl, rfl, Wk.uncap⟩, ?_⟩ | refine ⟨⟨_, _, rfl, rfl, Wk.nil⟩, ?_⟩)) (by repeat' (first | exact True.intro | refine ⟨⟨_, _, _, rfl, rfl, rfl, WkO.rfl⟩, ?_⟩ | refine HeapOK.acc rfl rfl ?_)))
  refine M.q (M.go rfl ?_)
  exact M.ret (M.go rfl (M.done (finQ.ret [(0, 0), (1, 1)] rfl rfl rfl Wk.rfl (by repeat' (first | exact True.intro | refine ⟨⟨_, _, _, rfl, rfl, rfl, WkO.rfl⟩, ?_⟩ | refine HeapOK.acc rfl rfl ?_)))))
end Go.Proofs.Yteegdhfekemhmaa
