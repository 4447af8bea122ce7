/- The log's own words: entries, snapshots; which entries may stand behind one another. -/
import Derived.Test.YteegdhfekemhmaaSymU
import Derived.Test.YteegdhfekemhmaaSimN
namespace Go.Proofs.Yteegdhfekemhmaa
open Go.RowKit Sim Go Sym
set_option maxRecDepth 100000
set_option linter.unusedVariables false
set_option linter.unusedSimpArgs false
variable {base : Nat}
structure Ent where
  ix : Int
  tm : Int
  kd : Int
  z : Bool
  d : List Nat
  c : Option Nat
def Ent.cs (e : Ent) : List PC := [.int .i64 e.ix, .int .i64 e.tm, .int .i64 e.kd, .tz e.z 1 (byP e.d) e.c]
def Ent.pc (e : Ent) : PC := .agg e.cs
def entP (l : List Ent) : List PC := l.map Ent.pc
def I64 (n : Int) : Prop := -9223372036854775808 ≤ n ∧ n ≤ 9223372036854775807
def okB (l : List Nat) : Prop := l.length ≤ 100000000000 ∧ ∀ b ∈ l, b < 256
structure Ent.ok (e : Ent) : Prop where
  ix : I64 e.ix
  tm : I64 e.tm
  kd : I64 e.kd
  d : okB e.d
theorem entP_at (pre rest : List Ent) (e : Ent) : (entP (pre ++ e :: rest))[((pre.length : Int)).toNat]? = some e.pc := at_app _ _ _ _
/-! Members. -/
noncomputable def lMem : {F : LF // lowerF Try.prog 94 = some F} := ⟨_, rfl⟩
/-- Each one is greater than the one ahead, all from 1 to 7. -/
def memB : Nat → List Nat → Bool
  | _, [] => true
  | p, b :: l => (decide (p < b) && decide (b ≤ 7)) && memB b l
def memL (l : List Nat) : List Nat := if memB 0 l = true then l else []
def nums (l : List Nat) : List PC := inP (l.map fun (b : Nat) => (b : Int))
theorem memB_app : ∀ (l r : List Nat) (p : Nat), memB p (l ++ r) = (memB p l && memB (l.getLast?.getD p) r)
  | [], r, p => by simp [memB]
  | b :: l, r, p => by
    have : (b :: l).getLast?.getD p = l.getLast?.getD b := by cases l <;> simp [List.getLast?_cons]
    rw [List.cons_append, memB, memB, memB_app l r b, this]; simp only [Bool.and_assoc]
def memE (v : XV) (z : Bool) (c : Option Nat) (l pre : List Nat) (b : Nat) : Env := [(31, v), (3, accV 0 1 (nums pre)), (5, .c (.p (.int .u8 b))), (0, .c (.p (.tz z 1 (byP l) c))), (6, .c (.p (.tz z 1 (byP l) c))), (7, .c (.p (.int .i64 (byP l).length))), (8, .c (.p (.int .i64 pre.length)))]
theorem members_loop (z : Bool) (c : Option Nat) (l : List Nat) (hl : okB l) (Q : QX) (hq : memB 0 l = true → Q (.exit 0) [(3, accV 0 1 (nums l))] ⟨[(0, accO 1 (nums l))], 1⟩) (hr : memB 0 l = false → Q .ret [(2, .c (.p (.tz true 1 [] none)))] ⟨[], 0⟩) :
    ∀ (rest pre : List Nat), l = pre ++ rest → memB 0 pre = true → XH Try.prog base lMem.1.n 0 (lMem.1.c.lp 0) [(0, .c (.p (.tz z 1 (byP l) c))), (6, .c (.p (.tz z 1 (byP l) c))), (7, .c (.p (.int .i64 (byP l).length))), (8, .c (.p (.int .i64 pre.length))), (3, accV 0 1 (nums pre))] ⟨[(0, accO 1 (nums pre))], 1⟩ Q := by
  intro rest
  induction rest with
  | nil =>
    intro pre hp hm
    refine M.round (M.go rfl ?_)
    simp at hp
    subst hp
    refine M.cond rfl (fun hc => ?_) (fun hc => ?_)
    · simp [byP] at hc
    · refine M.ren [(0, 0)] ?_ trivial rfl ⟨⟨_, _, accV_ren rfl, rfl, Wk.rfl⟩, trivial⟩ (.acc rfl rfl trivial) (e' := [(3, accV 0 1 (nums l))]) (h' := ⟨[(0, accO 1 (nums l))], 1⟩)
      exact M.exit (M.go rfl (M.done (hq hm)))
  | cons b rest ih =>
    intro pre hp hm
    have hbl : b < 256 := hl.2 b (by rw [hp]; simp)
    have hlen : (byP l).length = pre.length + (rest.length + 1) := by rw [hp]; simp [byP]
    have hll : pre.length + rest.length < 10000000000000 := by have := hl.1; rw [hp] at this; simp at this; omega
    refine M.round (M.go rfl ?_)
    refine M.cond rfl (fun hc => ?_) (fun hc => ?_)
    · refine M.go rfl ?_
      have hu : (byP l)[((pre.length : Int)).toNat]? = some (.int .u8 b) := by rw [hp]; exact at_app _ _ _ _
      refine M.op trivial (SOp.ia rfl rfl (by omega) hu) ?_
      refine M.op trivial (SOp.ld1e rfl hu rfl rfl rfl) ?_
      refine M.go rfl ?_
      obtain ⟨T, hT⟩ : ∃ T, T = (decide (pre.getLast?.getD 0 < b) && decide (b ≤ 7)) := ⟨_, rfl⟩
      have hmb : memB 0 l = (T && memB b rest) := by rw [hp, memB_app, hm, Bool.true_and, memB, hT]
      refine M.mid (memE (.c (.p (.bs (!T)))) z c l pre b) ⟨[(0, accO 1 (nums pre))], 1⟩ ?_ ?_
      · refine M.dec rfl (fun h1 => ?_) (fun h1 => ?_)
        · exact M.go rfl (M.end [(0, 0)] rfl ⟨⟨_, _, rfl, rfl, Wk.b1 (by rw [hT, decide_eq_false (p := _ < b) (by omega)]; rfl)⟩, (by repeat' (first | exact True.intro | refine ⟨⟨_, _, rfl, rfl, Wk.rfl⟩, ?_⟩ | refine ⟨⟨_, _, accV_ren rfl, rfl, Wk.rfl⟩, ?_⟩ | refine ⟨⟨_, _, accV_ren rfl, rfl, Wk.acc0⟩, ?_⟩ | refine ⟨⟨_, _, rfl, rfl, Wk.uncap⟩, ?_⟩ | refine ⟨⟨_, _, rfl, rfl, Wk.nil⟩, ?_⟩))⟩ (by repeat' (first | exact True.intro | refine ⟨⟨_, _, _, rfl, rfl, rfl, WkO.rfl⟩, ?_⟩ | refine HeapOK.acc rfl rfl ?_)))
        · refine M.go rfl ?_
          refine M.dec rfl (fun h2 => ?_) (fun h2 => ?_)
          · exact M.go rfl (M.end [(0, 0)] rfl ⟨⟨_, _, rfl, rfl, Wk.b1 (by rw [hT, decide_eq_false (p := b ≤ 7) (by omega)]; simp)⟩, (by repeat' (first | exact True.intro | refine ⟨⟨_, _, rfl, rfl, Wk.rfl⟩, ?_⟩ | refine ⟨⟨_, _, accV_ren rfl, rfl, Wk.rfl⟩, ?_⟩ | refine ⟨⟨_, _, accV_ren rfl, rfl, Wk.acc0⟩, ?_⟩ | refine ⟨⟨_, _, rfl, rfl, Wk.uncap⟩, ?_⟩ | refine ⟨⟨_, _, rfl, rfl, Wk.nil⟩, ?_⟩))⟩ (by repeat' (first | exact True.intro | refine ⟨⟨_, _, _, rfl, rfl, rfl, WkO.rfl⟩, ?_⟩ | refine HeapOK.acc rfl rfl ?_)))
          · refine M.go rfl ?_
            have e2 : decide (b ≤ 7) = true := by simp; omega
            refine M.dec rfl (fun h3 => ?_) (fun h3 => ?_)
            · refine M.go rfl ?_
              obtain ⟨p0, q, rfl⟩ : ∃ p0 q, pre = p0 ++ [q] := ⟨_, _, (List.dropLast_concat_getLast (by rintro rfl; simp at h3)).symm⟩
              have hw : IntKind.i64.wrap (((p0 ++ [q]).length : Int) - 1) = p0.length := by
                rw [wr64 (by simp) (by simp at hll ⊢; omega)]; simp
              rw [hw]
              have hu' : (byP l)[((p0.length : Int)).toNat]? = some (.int .u8 q) := by rw [hp, List.append_assoc]; exact at_app _ _ _ _
              refine M.op rfl (SOp.ia rfl rfl (by omega) hu') ?_
              refine M.op rfl (SOp.ld1e rfl hu' rfl rfl rfl) ?_
              refine M.go rfl (M.end [(0, 0)] rfl ⟨⟨_, _, rfl, rfl, Wk.b2 ?_⟩, (by repeat' (first | exact True.intro | refine ⟨⟨_, _, rfl, rfl, Wk.rfl⟩, ?_⟩ | refine ⟨⟨_, _, accV_ren rfl, rfl, Wk.rfl⟩, ?_⟩ | refine ⟨⟨_, _, accV_ren rfl, rfl, Wk.acc0⟩, ?_⟩ | refine ⟨⟨_, _, rfl, rfl, Wk.uncap⟩, ?_⟩ | refine ⟨⟨_, _, rfl, rfl, Wk.nil⟩, ?_⟩))⟩ (by repeat' (first | exact True.intro | refine ⟨⟨_, _, _, rfl, rfl, rfl, WkO.rfl⟩, ?_⟩ | refine HeapOK.acc rfl rfl ?_)))
              have e1 : (p0 ++ [q]).getLast?.getD 0 = q := by simp
              rw [hT, e1, e2, Bool.and_true]
              by_cases hq : b ≤ q
              · rw [decide_eq_true (p := (b : Int) ≤ q) (by omega), decide_eq_false (p := q < b) (by omega)]; rfl
              · rw [decide_eq_false (p := (b : Int) ≤ q) (by omega), decide_eq_true (p := q < b) (by omega)]; rfl
            · refine M.go rfl (M.end [(0, 0)] rfl ⟨⟨_, _, rfl, rfl, Wk.b1 ?_⟩, (by repeat' (first | exact True.intro | refine ⟨⟨_, _, rfl, rfl, Wk.rfl⟩, ?_⟩ | refine ⟨⟨_, _, accV_ren rfl, rfl, Wk.rfl⟩, ?_⟩ | refine ⟨⟨_, _, accV_ren rfl, rfl, Wk.acc0⟩, ?_⟩ | refine ⟨⟨_, _, rfl, rfl, Wk.uncap⟩, ?_⟩ | refine ⟨⟨_, _, rfl, rfl, Wk.nil⟩, ?_⟩))⟩ (by repeat' (first | exact True.intro | refine ⟨⟨_, _, _, rfl, rfl, rfl, WkO.rfl⟩, ?_⟩ | refine HeapOK.acc rfl rfl ?_)))
              have : pre = [] := List.eq_nil_of_length_eq_zero (by omega)
              subst this
              rw [hT, e2, decide_eq_true (by simp; omega)]; rfl
      · refine M.go rfl ?_
        refine M.condB rfl (fun hc => ?_) (fun hc => ?_)
        · refine M.go rfl ?_
          refine M.ren [] ?_ trivial rfl (by repeat' (first | exact True.intro | refine ⟨⟨_, _, rfl, rfl, Wk.rfl⟩, ?_⟩ | refine ⟨⟨_, _, accV_ren rfl, rfl, Wk.rfl⟩, ?_⟩ | refine ⟨⟨_, _, accV_ren rfl, rfl, Wk.acc0⟩, ?_⟩ | refine ⟨⟨_, _, rfl, rfl, Wk.uncap⟩, ?_⟩ | refine ⟨⟨_, _, rfl, rfl, Wk.nil⟩, ?_⟩)) (by repeat' (first | exact True.intro | refine ⟨⟨_, _, _, rfl, rfl, rfl, WkO.rfl⟩, ?_⟩ | refine HeapOK.acc rfl rfl ?_)) (e' := [(2, .c (.p (.tz true 1 [] none)))]) (h' := ⟨[], 0⟩)
          exact M.ret (M.go rfl (M.done (hr (by rw [hmb]; rw [Bool.not_eq_true'] at hc; rw [hc]; rfl))))
        · refine M.go rfl ?_
          have hbb : T = true := by simpa using hc
          have ih' := ih (pre ++ [b]) (by rw [hp]; simp) (by rw [memB_app, hm, Bool.true_and, memB, memB, ← hT, hbb]; rfl)
          have hw : IntKind.i64.wrap (b : Int) = b := wr64 (by omega) (by omega)
          have hw2 : IntKind.i64.wrap ((pre.length : Int) + 1) = ((pre ++ [b]).length : Int) := by rw [wr64 (by omega) (by omega)]; simp
          rw [hw]
          rw [show nums (pre ++ [b]) = nums pre ++ [.int .i64 b] by simp [nums, inP]] at ih'
          refine M.acc trivial rfl rfl rfl (.own rfl rfl) (by simp) (by simp [nums, inP]; omega) ?_
          refine M.go rfl ?_
          rw [hw2]
          exact M.again (XH.ren [(0, 2)] ih' rfl (by repeat' (first | exact True.intro | refine ⟨⟨_, _, rfl, rfl, Wk.rfl⟩, ?_⟩ | refine ⟨⟨_, _, accV_ren rfl, rfl, Wk.rfl⟩, ?_⟩ | refine ⟨⟨_, _, accV_ren rfl, rfl, Wk.acc0⟩, ?_⟩ | refine ⟨⟨_, _, rfl, rfl, Wk.uncap⟩, ?_⟩ | refine ⟨⟨_, _, rfl, rfl, Wk.nil⟩, ?_⟩)) (by repeat' (first | exact True.intro | refine ⟨⟨_, _, _, rfl, rfl, rfl, WkO.rfl⟩, ?_⟩ | refine HeapOK.acc rfl rfl ?_)))
    · rw [hlen] at hc; omega
theorem members_spec (z : Bool) (c : Option Nat) (l : List Nat) (hl : okB l) : CallS Try.prog base 94 [.c (.p (.tz z 1 (byP l) c))] ⟨[], 0⟩ (.c (.p (.tz true 1 (nums (memL l)) none))) ⟨[], 0⟩ := by
  refine CallS.of noNG lMem.2 rfl (M.start (M.go rfl ?_))
  refine M.loop (XH.ren [(0, 0)] (members_loop z c l hl _ ?_ ?_ l [] rfl rfl) rfl (by repeat' (first | exact True.intro | refine ⟨⟨_, _, rfl, rfl, Wk.rfl⟩, ?_⟩ | refine ⟨⟨_, _, accV_ren rfl, rfl, Wk.rfl⟩, ?_⟩ | refine ⟨⟨_, _, accV_ren rfl, rfl, Wk.acc0⟩, ?_⟩ | refine ⟨⟨_, _, rfl, rfl, Wk.uncap⟩, ?_⟩ | refine ⟨⟨_, _, rfl, rfl, Wk.nil⟩, ?_⟩)) (by repeat' (first | exact True.intro | refine ⟨⟨_, _, _, rfl, rfl, rfl, WkO.rfl⟩, ?_⟩ | refine HeapOK.acc rfl rfl ?_)))
  · intro hm
    refine M.q (M.go rfl ?_)
    refine M.accF (i := 2) rfl rfl ?_
    refine M.ren [] ?_ trivial rfl (by repeat' (first | exact True.intro | refine ⟨⟨_, _, rfl, rfl, Wk.rfl⟩, ?_⟩ | refine ⟨⟨_, _, accV_ren rfl, rfl, Wk.rfl⟩, ?_⟩ | refine ⟨⟨_, _, accV_ren rfl, rfl, Wk.acc0⟩, ?_⟩ | refine ⟨⟨_, _, rfl, rfl, Wk.uncap⟩, ?_⟩ | refine ⟨⟨_, _, rfl, rfl, Wk.nil⟩, ?_⟩)) (by repeat' (first | exact True.intro | refine ⟨⟨_, _, _, rfl, rfl, rfl, WkO.rfl⟩, ?_⟩ | refine HeapOK.acc rfl rfl ?_)) (e' := [(2, .c (.p (.tz true 1 (nums l) none)))]) (h' := ⟨[], 0⟩)
    rw [memL, if_pos hm]
    exact M.ret (M.go rfl (M.done (finQ.ret [] rfl rfl rfl (by first | exact Wk.rfl | exact Wk.uncap | exact Wk.nil | exact Wk.b1 rfl | exact Wk.t2 Wk.rfl (Wk.b1 rfl)) (by repeat' (first | exact True.intro | refine ⟨⟨_, _, _, rfl, rfl, rfl, WkO.rfl⟩, ?_⟩ | refine HeapOK.acc rfl rfl ?_)))))
  · intro hm
    refine M.q (M.go rfl ?_)
    rw [memL, if_neg (by rw [hm]; simp)]
    exact M.done (finQ.ret [] rfl rfl rfl (by first | exact Wk.rfl | exact Wk.uncap | exact Wk.nil | exact Wk.b1 rfl | exact Wk.t2 Wk.rfl (Wk.b1 rfl)) (by repeat' (first | exact True.intro | refine ⟨⟨_, _, _, rfl, rfl, rfl, WkO.rfl⟩, ?_⟩ | refine HeapOK.acc rfl rfl ?_)))
/-! Clones. -/
noncomputable def lBcl : {F : LF // lowerF Try.prog 96 = some F} := ⟨_, rfl⟩
theorem Bcl_spec (z : Bool) (el : List PC) (c : Option Nat) (hl : el.length ≤ 1000000000000) : CallS Try.prog base 96 [.c (.p (.tz z 1 el c))] ⟨[], 0⟩ (.c (.p (.tz z 1 el none))) ⟨[], 0⟩ := by
  refine CallS.of noNG lBcl.2 rfl (M.start (M.go rfl ?_))
  refine M.condB rfl (fun hc => ?_) (fun hc => ?_)
  · refine M.go rfl ?_
    obtain ⟨rfl, rfl⟩ : z = true ∧ el = [] := by simpa using hc
    refine M.ren [] ?_ trivial rfl (by repeat' (first | exact True.intro | refine ⟨⟨_, _, rfl, rfl, Wk.rfl⟩, ?_⟩ | refine ⟨⟨_, _, accV_ren rfl, rfl, Wk.rfl⟩, ?_⟩ | refine ⟨⟨_, _, accV_ren rfl, rfl, Wk.acc0⟩, ?_⟩ | refine ⟨⟨_, _, rfl, rfl, Wk.uncap⟩, ?_⟩ | refine ⟨⟨_, _, rfl, rfl, Wk.nil⟩, ?_⟩)) (by repeat' (first | exact True.intro | refine ⟨⟨_, _, _, rfl, rfl, rfl, WkO.rfl⟩, ?_⟩ | refine HeapOK.acc rfl rfl ?_)) (e' := [(2, .c (.p (.tz true 1 [] none)))]) (h' := ⟨[], 0⟩)
    exact M.ret (M.go rfl (M.done (finQ.ret [] rfl rfl rfl (by first | exact Wk.rfl | exact Wk.uncap | exact Wk.nil | exact Wk.b1 rfl | exact Wk.t2 Wk.rfl (Wk.b1 rfl)) (by repeat' (first | exact True.intro | refine ⟨⟨_, _, _, rfl, rfl, rfl, WkO.rfl⟩, ?_⟩ | refine HeapOK.acc rfl rfl ?_)))))
  · refine M.go rfl ?_
    by_cases h0 : el = []
    · subst h0
      obtain rfl : z = false := by simpa using hc
      refine M.op trivial (SOp.app0 rfl rfl .tz (.inl ⟨_, _, _, _, _, rfl⟩)) ?_
      refine M.go rfl ?_
      refine M.freezeN (i := 2) rfl rfl rfl ?_
      refine M.ren [] ?_ trivial rfl (by repeat' (first | exact True.intro | refine ⟨⟨_, _, rfl, rfl, Wk.rfl⟩, ?_⟩ | refine ⟨⟨_, _, accV_ren rfl, rfl, Wk.rfl⟩, ?_⟩ | refine ⟨⟨_, _, accV_ren rfl, rfl, Wk.acc0⟩, ?_⟩ | refine ⟨⟨_, _, rfl, rfl, Wk.uncap⟩, ?_⟩ | refine ⟨⟨_, _, rfl, rfl, Wk.nil⟩, ?_⟩)) (by repeat' (first | exact True.intro | refine ⟨⟨_, _, _, rfl, rfl, rfl, WkO.rfl⟩, ?_⟩ | refine HeapOK.acc rfl rfl ?_)) (e' := [(2, .c (.p (.tz false 1 [] none)))]) (h' := ⟨[], 0⟩)
      exact M.ret (M.go rfl (M.done (finQ.ret [] rfl rfl rfl (by first | exact Wk.rfl | exact Wk.uncap | exact Wk.nil | exact Wk.b1 rfl | exact Wk.t2 Wk.rfl (Wk.b1 rfl)) (by repeat' (first | exact True.intro | refine ⟨⟨_, _, _, rfl, rfl, rfl, WkO.rfl⟩, ?_⟩ | refine HeapOK.acc rfl rfl ?_)))))
    · refine M.op trivial (SOp.appF (ex := []) rfl rfl rfl (by have := List.length_pos_iff.2 h0; simp; omega) rfl .tz h0 (by simp; omega)) ?_
      refine M.go rfl ?_
      refine M.freezeN (i := 2) rfl rfl (by simp) ?_
      refine M.ren [] ?_ trivial rfl ⟨⟨_, _, rfl, rfl, Wk.some h0⟩, trivial⟩ (by repeat' (first | exact True.intro | refine ⟨⟨_, _, _, rfl, rfl, rfl, WkO.rfl⟩, ?_⟩ | refine HeapOK.acc rfl rfl ?_)) (e' := [(2, .c (.p (.tz z 1 el none)))]) (h' := ⟨[], 0⟩)
      exact M.ret (M.go rfl (M.done (finQ.ret [] rfl rfl rfl (by first | exact Wk.rfl | exact Wk.uncap | exact Wk.nil | exact Wk.b1 rfl | exact Wk.t2 Wk.rfl (Wk.b1 rfl)) (by repeat' (first | exact True.intro | refine ⟨⟨_, _, _, rfl, rfl, rfl, WkO.rfl⟩, ?_⟩ | refine HeapOK.acc rfl rfl ?_)))))
noncomputable def lIcl : {F : LF // lowerF Try.prog 95 = some F} := ⟨_, rfl⟩
theorem Icl_spec (z : Bool) (el : List PC) (c : Option Nat) (hl : el.length ≤ 1000000000000) : CallS Try.prog base 95 [.c (.p (.tz z 1 el c))] ⟨[], 0⟩ (.c (.p (.tz z 1 el none))) ⟨[], 0⟩ := by
  refine CallS.of noNG lIcl.2 rfl (M.start (M.go rfl ?_))
  refine M.condB rfl (fun hc => ?_) (fun hc => ?_)
  · refine M.go rfl ?_
    obtain ⟨rfl, rfl⟩ : z = true ∧ el = [] := by simpa using hc
    refine M.ren [] ?_ trivial rfl (by repeat' (first | exact True.intro | refine ⟨⟨_, _, rfl, rfl, Wk.rfl⟩, ?_⟩ | refine ⟨⟨_, _, accV_ren rfl, rfl, Wk.rfl⟩, ?_⟩ | refine ⟨⟨_, _, accV_ren rfl, rfl, Wk.acc0⟩, ?_⟩ | refine ⟨⟨_, _, rfl, rfl, Wk.uncap⟩, ?_⟩ | refine ⟨⟨_, _, rfl, rfl, Wk.nil⟩, ?_⟩)) (by repeat' (first | exact True.intro | refine ⟨⟨_, _, _, rfl, rfl, rfl, WkO.rfl⟩, ?_⟩ | refine HeapOK.acc rfl rfl ?_)) (e' := [(2, .c (.p (.tz true 1 [] none)))]) (h' := ⟨[], 0⟩)
    exact M.ret (M.go rfl (M.done (finQ.ret [] rfl rfl rfl (by first | exact Wk.rfl | exact Wk.uncap | exact Wk.nil | exact Wk.b1 rfl | exact Wk.t2 Wk.rfl (Wk.b1 rfl)) (by repeat' (first | exact True.intro | refine ⟨⟨_, _, _, rfl, rfl, rfl, WkO.rfl⟩, ?_⟩ | refine HeapOK.acc rfl rfl ?_)))))
  · refine M.go rfl ?_
    by_cases h0 : el = []
    · subst h0
      obtain rfl : z = false := by simpa using hc
      refine M.op trivial (SOp.app0 rfl rfl .tz (.inl ⟨_, _, _, _, _, rfl⟩)) ?_
      refine M.go rfl ?_
      refine M.freezeN (i := 2) rfl rfl rfl ?_
      refine M.ren [] ?_ trivial rfl (by repeat' (first | exact True.intro | refine ⟨⟨_, _, rfl, rfl, Wk.rfl⟩, ?_⟩ | refine ⟨⟨_, _, accV_ren rfl, rfl, Wk.rfl⟩, ?_⟩ | refine ⟨⟨_, _, accV_ren rfl, rfl, Wk.acc0⟩, ?_⟩ | refine ⟨⟨_, _, rfl, rfl, Wk.uncap⟩, ?_⟩ | refine ⟨⟨_, _, rfl, rfl, Wk.nil⟩, ?_⟩)) (by repeat' (first | exact True.intro | refine ⟨⟨_, _, _, rfl, rfl, rfl, WkO.rfl⟩, ?_⟩ | refine HeapOK.acc rfl rfl ?_)) (e' := [(2, .c (.p (.tz false 1 [] none)))]) (h' := ⟨[], 0⟩)
      exact M.ret (M.go rfl (M.done (finQ.ret [] rfl rfl rfl (by first | exact Wk.rfl | exact Wk.uncap | exact Wk.nil | exact Wk.b1 rfl | exact Wk.t2 Wk.rfl (Wk.b1 rfl)) (by repeat' (first | exact True.intro | refine ⟨⟨_, _, _, rfl, rfl, rfl, WkO.rfl⟩, ?_⟩ | refine HeapOK.acc rfl rfl ?_)))))
    · refine M.op trivial (SOp.appF (ex := []) rfl rfl rfl (by have := List.length_pos_iff.2 h0; simp; omega) rfl .tz h0 (by simp; omega)) ?_
      refine M.go rfl ?_
      refine M.freezeN (i := 2) rfl rfl (by simp) ?_
      refine M.ren [] ?_ trivial rfl ⟨⟨_, _, rfl, rfl, Wk.some h0⟩, trivial⟩ (by repeat' (first | exact True.intro | refine ⟨⟨_, _, _, rfl, rfl, rfl, WkO.rfl⟩, ?_⟩ | refine HeapOK.acc rfl rfl ?_)) (e' := [(2, .c (.p (.tz z 1 el none)))]) (h' := ⟨[], 0⟩)
      exact M.ret (M.go rfl (M.done (finQ.ret [] rfl rfl rfl (by first | exact Wk.rfl | exact Wk.uncap | exact Wk.nil | exact Wk.b1 rfl | exact Wk.t2 Wk.rfl (Wk.b1 rfl)) (by repeat' (first | exact True.intro | refine ⟨⟨_, _, _, rfl, rfl, rfl, WkO.rfl⟩, ?_⟩ | refine HeapOK.acc rfl rfl ?_)))))
noncomputable def lEcl : {F : LF // lowerF Try.prog 97 = some F} := ⟨_, rfl⟩
theorem Ecl_spec (z : Bool) (el : List PC) (c : Option Nat) (hl : el.length ≤ 1000000000000) : CallS Try.prog base 97 [.c (.p (.tz z 4 el c))] ⟨[], 0⟩ (.c (.p (.tz z 4 el none))) ⟨[], 0⟩ := by
  refine CallS.of noNG lEcl.2 rfl (M.start (M.go rfl ?_))
  refine M.condB rfl (fun hc => ?_) (fun hc => ?_)
  · refine M.go rfl ?_
    obtain ⟨rfl, rfl⟩ : z = true ∧ el = [] := by simpa using hc
    refine M.ren [] ?_ trivial rfl (by repeat' (first | exact True.intro | refine ⟨⟨_, _, rfl, rfl, Wk.rfl⟩, ?_⟩ | refine ⟨⟨_, _, accV_ren rfl, rfl, Wk.rfl⟩, ?_⟩ | refine ⟨⟨_, _, accV_ren rfl, rfl, Wk.acc0⟩, ?_⟩ | refine ⟨⟨_, _, rfl, rfl, Wk.uncap⟩, ?_⟩ | refine ⟨⟨_, _, rfl, rfl, Wk.nil⟩, ?_⟩)) (by repeat' (first | exact True.intro | refine ⟨⟨_, _, _, rfl, rfl, rfl, WkO.rfl⟩, ?_⟩ | refine HeapOK.acc rfl rfl ?_)) (e' := [(2, .c (.p (.tz true 4 [] none)))]) (h' := ⟨[], 0⟩)
    exact M.ret (M.go rfl (M.done (finQ.ret [] rfl rfl rfl (by first | exact Wk.rfl | exact Wk.uncap | exact Wk.nil | exact Wk.b1 rfl | exact Wk.t2 Wk.rfl (Wk.b1 rfl)) (by repeat' (first | exact True.intro | refine ⟨⟨_, _, _, rfl, rfl, rfl, WkO.rfl⟩, ?_⟩ | refine HeapOK.acc rfl rfl ?_)))))
  · refine M.go rfl ?_
    by_cases h0 : el = []
    · subst h0
      obtain rfl : z = false := by simpa using hc
      refine M.op trivial (SOp.app0 rfl rfl .tz (.inl ⟨_, _, _, _, _, rfl⟩)) ?_
      refine M.go rfl ?_
      refine M.freezeN (i := 2) rfl rfl rfl ?_
      refine M.ren [] ?_ trivial rfl (by repeat' (first | exact True.intro | refine ⟨⟨_, _, rfl, rfl, Wk.rfl⟩, ?_⟩ | refine ⟨⟨_, _, accV_ren rfl, rfl, Wk.rfl⟩, ?_⟩ | refine ⟨⟨_, _, accV_ren rfl, rfl, Wk.acc0⟩, ?_⟩ | refine ⟨⟨_, _, rfl, rfl, Wk.uncap⟩, ?_⟩ | refine ⟨⟨_, _, rfl, rfl, Wk.nil⟩, ?_⟩)) (by repeat' (first | exact True.intro | refine ⟨⟨_, _, _, rfl, rfl, rfl, WkO.rfl⟩, ?_⟩ | refine HeapOK.acc rfl rfl ?_)) (e' := [(2, .c (.p (.tz false 4 [] none)))]) (h' := ⟨[], 0⟩)
      exact M.ret (M.go rfl (M.done (finQ.ret [] rfl rfl rfl (by first | exact Wk.rfl | exact Wk.uncap | exact Wk.nil | exact Wk.b1 rfl | exact Wk.t2 Wk.rfl (Wk.b1 rfl)) (by repeat' (first | exact True.intro | refine ⟨⟨_, _, _, rfl, rfl, rfl, WkO.rfl⟩, ?_⟩ | refine HeapOK.acc rfl rfl ?_)))))
    · refine M.op trivial (SOp.appF (ex := []) rfl rfl rfl (by have := List.length_pos_iff.2 h0; simp; omega) rfl .tz h0 (by simp; omega)) ?_
      refine M.go rfl ?_
      refine M.freezeN (i := 2) rfl rfl (by simp) ?_
      refine M.ren [] ?_ trivial rfl ⟨⟨_, _, rfl, rfl, Wk.some h0⟩, trivial⟩ (by repeat' (first | exact True.intro | refine ⟨⟨_, _, _, rfl, rfl, rfl, WkO.rfl⟩, ?_⟩ | refine HeapOK.acc rfl rfl ?_)) (e' := [(2, .c (.p (.tz z 4 el none)))]) (h' := ⟨[], 0⟩)
      exact M.ret (M.go rfl (M.done (finQ.ret [] rfl rfl rfl (by first | exact Wk.rfl | exact Wk.uncap | exact Wk.nil | exact Wk.b1 rfl | exact Wk.t2 Wk.rfl (Wk.b1 rfl)) (by repeat' (first | exact True.intro | refine ⟨⟨_, _, _, rfl, rfl, rfl, WkO.rfl⟩, ?_⟩ | refine HeapOK.acc rfl rfl ?_)))))
noncomputable def lClip : {F : LF // lowerF Try.prog 98 = some F} := ⟨_, rfl⟩
theorem Clip_spec (z : Bool) (el : List PC) (c : Option Nat) : CallS Try.prog base 98 [.c (.p (.tz z 4 el c))] ⟨[], 0⟩ (.c (.p (.tz (z && el.isEmpty) 4 el (some el.length)))) ⟨[], 0⟩ := by
  refine CallS.of noNG lClip.2 rfl (M.start (M.go rfl ?_))
  refine M.op trivial (SOp.slM (l := 0) (r := el.length) (m := el.length) rfl rfl ⟨_, _, rfl, by omega, by simp⟩ ⟨_, _, rfl, by omega, by simp⟩ (by omega) (by omega) (by omega)) ?_
  refine M.go rfl ?_
  rw [show (el.drop 0).take (el.length - 0) = el by simp, show el.length - 0 = el.length by omega]
  refine M.ren [] ?_ trivial rfl (by repeat' (first | exact True.intro | refine ⟨⟨_, _, rfl, rfl, Wk.rfl⟩, ?_⟩ | refine ⟨⟨_, _, accV_ren rfl, rfl, Wk.rfl⟩, ?_⟩ | refine ⟨⟨_, _, accV_ren rfl, rfl, Wk.acc0⟩, ?_⟩ | refine ⟨⟨_, _, rfl, rfl, Wk.uncap⟩, ?_⟩ | refine ⟨⟨_, _, rfl, rfl, Wk.nil⟩, ?_⟩)) (by repeat' (first | exact True.intro | refine ⟨⟨_, _, _, rfl, rfl, rfl, WkO.rfl⟩, ?_⟩ | refine HeapOK.acc rfl rfl ?_)) (e' := [(2, .c (.p (.tz (z && el.isEmpty) 4 el (some el.length))))]) (h' := ⟨[], 0⟩)
  exact M.ret (M.go rfl (M.done (finQ.ret [] rfl rfl rfl (by first | exact Wk.rfl | exact Wk.uncap | exact Wk.nil | exact Wk.b1 rfl | exact Wk.t2 Wk.rfl (Wk.b1 rfl)) (by repeat' (first | exact True.intro | refine ⟨⟨_, _, _, rfl, rfl, rfl, WkO.rfl⟩, ?_⟩ | refine HeapOK.acc rfl rfl ?_)))))
/-! An entry, a snapshot of one's own. -/
noncomputable def lOwn : {F : LF // lowerF Try.prog 93 = some F} := ⟨_, rfl⟩
def Ent.own (e : Ent) : Ent := { e with c := none }
def Ent.v (e : Ent) : XV := .agg (e.cs.map XC.p)
theorem byP_len (l : List Nat) : (byP l).length = l.length := by simp [byP]
theorem own_spec (e : Ent) (he : okB e.d) : CallS Try.prog base 93 [e.v] ⟨[], 0⟩ e.own.v ⟨[], 0⟩ := by
  refine CallS.of noNG lOwn.2 rfl (M.start (M.go rfl ?_))
  refine M.use0 trivial (Bcl_spec e.z (byP e.d) e.c (by have := he.1; rw [byP_len]; omega)) rfl rfl rfl ?_
  refine M.go rfl ?_
  exact M.ret (M.go rfl (M.done (finQ.ret [] rfl rfl rfl (by first | exact Wk.rfl | exact Wk.uncap | exact Wk.nil | exact Wk.b1 rfl | exact Wk.t2 Wk.rfl (Wk.b1 rfl)) (by repeat' (first | exact True.intro | refine ⟨⟨_, _, _, rfl, rfl, rfl, WkO.rfl⟩, ?_⟩ | refine HeapOK.acc rfl rfl ?_)))))
structure Snp where
  ix : Int
  tm : Int
  cz : Bool
  cf : List Int
  cc : Option Nat
  dz : Bool
  d : List Nat
  dc : Option Nat
def Snp.cs (s : Snp) : List PC := [.int .i64 s.ix, .int .i64 s.tm, .tz s.cz 1 (inP s.cf) s.cc, .tz s.dz 1 (byP s.d) s.dc]
def Snp.pc (s : Snp) : PC := .agg s.cs
def Snp.v (s : Snp) : XV := .agg (s.cs.map XC.p)
def Snp.own (s : Snp) : Snp := { s with cc := none, dc := none }
structure Snp.ok (s : Snp) : Prop where
  ix : I64 s.ix
  tm : I64 s.tm
  cf : s.cf.length ≤ 100000000000 ∧ ∀ i ∈ s.cf, I64 i
  d : okB s.d
theorem inP_len (l : List Int) : (inP l).length = l.length := by simp [inP]
noncomputable def lOwnS : {F : LF // lowerF Try.prog 92 = some F} := ⟨_, rfl⟩
theorem ownS_spec (s : Snp) (hs : s.ok) : CallS Try.prog base 92 [s.v] ⟨[], 0⟩ s.own.v ⟨[], 0⟩ := by
  refine CallS.of noNG lOwnS.2 rfl (M.start (M.go rfl ?_))
  refine M.regF (MF.go rfl ?_)
  refine MF.use0 trivial (Icl_spec s.cz (inP s.cf) s.cc (by have := hs.cf.1; rw [inP_len]; omega)) rfl rfl rfl (MF.go rfl ?_)
  refine MF.use0 trivial (Bcl_spec s.dz (byP s.d) s.dc (by have := hs.d.1; rw [byP_len]; omega)) rfl rfl rfl (MF.go rfl ?_)
  refine MF.nil mixed (Fnl.nodup rfl) rfl ⟨⟨stepX_ok rfl, trivial⟩, trivial⟩ ?_
  refine M.go rfl ?_
  exact M.ret (M.go rfl (M.done (finQ.ret [] rfl rfl rfl (by first | exact Wk.rfl | exact Wk.uncap | exact Wk.nil | exact Wk.b1 rfl | exact Wk.t2 Wk.rfl (Wk.b1 rfl)) (by repeat' (first | exact True.intro | refine ⟨⟨_, _, _, rfl, rfl, rfl, WkO.rfl⟩, ?_⟩ | refine HeapOK.acc rfl rfl ?_)))))
/-! Which entries may stand behind one another. -/
noncomputable def lMay : {F : LF // lowerF Try.prog 91 = some F} := ⟨_, rfl⟩
def entB (i t : Int) (e : Ent) : Bool := !(!decide (e.ix = i) || (decide (e.tm < 1) || (decide (e.tm < t) || (decide (e.kd < 1) || (decide (3 < e.kd) || (decide (e.kd = 3) && (memL e.d).isEmpty))))))
def mayF : Int → Int → List Ent → Bool
  | _, _, [] => true
  | i, t, e :: l => !decide (i = 9223372036854775807) && (entB (i + 1) t e && mayF (i + 1) e.tm l)
def mayE (z : Bool) (c : Option Nat) (l pre : List Ent) (i t : Int) : Env := [(0, .c (.p (.int .i64 i))), (1, .c (.p (.int .i64 t))), (9, .c (.p (.tz z 4 (entP l) c))), (10, .c (.p (.int .i64 (entP l).length))), (11, .c (.p (.int .i64 pre.length)))]
theorem may_loop (z : Bool) (c : Option Nat) (l : List Ent) (hl : l.length ≤ 100000000000) (hok : ∀ e ∈ l, e.ok) (Q : QX) :
    ∀ (rest pre : List Ent) (i t : Int), l = pre ++ rest → I64 i → (mayF i t rest = true → Q (.exit 0) [] ⟨[], 0⟩) → (mayF i t rest = false → Q .ret [(6, .c (.p (.bool false)))] ⟨[], 0⟩) → XH Try.prog base lMay.1.n 0 (lMay.1.c.lp 0) (mayE z c l pre i t) ⟨[], 0⟩ Q := by
  intro rest
  induction rest with
  | nil =>
    intro pre i t hp hi hq hr
    refine M.round (M.go rfl ?_)
    simp at hp
    subst hp
    refine M.cond rfl (fun hc => ?_) (fun hc => ?_)
    · simp [entP] at hc
    · refine M.ren [] ?_ trivial rfl (by repeat' (first | exact True.intro | refine ⟨⟨_, _, rfl, rfl, Wk.rfl⟩, ?_⟩ | refine ⟨⟨_, _, accV_ren rfl, rfl, Wk.rfl⟩, ?_⟩ | refine ⟨⟨_, _, accV_ren rfl, rfl, Wk.acc0⟩, ?_⟩ | refine ⟨⟨_, _, rfl, rfl, Wk.uncap⟩, ?_⟩ | refine ⟨⟨_, _, rfl, rfl, Wk.nil⟩, ?_⟩)) (by repeat' (first | exact True.intro | refine ⟨⟨_, _, _, rfl, rfl, rfl, WkO.rfl⟩, ?_⟩ | refine HeapOK.acc rfl rfl ?_)) (e' := []) (h' := ⟨[], 0⟩)
      exact M.exit (M.go rfl (M.done (hq rfl)))
  | cons e rest ih =>
    intro pre i t hp hi hq hr
    have he : e.ok := hok e (by rw [hp]; simp)
    have hlen : (entP l).length = pre.length + (rest.length + 1) := by rw [hp]; simp [entP]
    have hll : pre.length + rest.length < 100000000000 := by rw [hp] at hl; simp at hl; omega
    have fin : mayF i t (e :: rest) = false → M Try.prog base lMay.1.n 0 (.out .ret) [] [(6, .c (.p (.bool false)))] ⟨[], 0⟩ Q := fun hm => M.done (hr hm)
    refine M.round (M.go rfl ?_)
    refine M.cond rfl (fun hc => ?_) (fun hc => ?_)
    · refine M.go rfl ?_
      have hu : (entP l)[((pre.length : Int)).toNat]? = some e.pc := by rw [hp]; exact at_app _ _ _ _
      refine M.op trivial (SOp.ia rfl rfl (by omega) hu) ?_
      refine M.op trivial (SOp.ldne rfl hu rfl rfl rfl) ?_
      refine M.go rfl ?_
      refine M.cond rfl (fun h0 => ?_) (fun h0 => ?_)
      · refine M.go rfl ?_
        refine M.ren [] ?_ trivial rfl (by repeat' (first | exact True.intro | refine ⟨⟨_, _, rfl, rfl, Wk.rfl⟩, ?_⟩ | refine ⟨⟨_, _, accV_ren rfl, rfl, Wk.rfl⟩, ?_⟩ | refine ⟨⟨_, _, accV_ren rfl, rfl, Wk.acc0⟩, ?_⟩ | refine ⟨⟨_, _, rfl, rfl, Wk.uncap⟩, ?_⟩ | refine ⟨⟨_, _, rfl, rfl, Wk.nil⟩, ?_⟩)) (by repeat' (first | exact True.intro | refine ⟨⟨_, _, _, rfl, rfl, rfl, WkO.rfl⟩, ?_⟩ | refine HeapOK.acc rfl rfl ?_)) (e' := [(6, .c (.p (.bool false)))]) (h' := ⟨[], 0⟩)
        exact M.ret (M.go rfl (M.done (hr (by rw [mayF, decide_eq_true (p := i = _) h0]; rfl))))
      · refine M.go rfl ?_
        have hw : IntKind.i64.wrap (i + 1) = i + 1 := wr64 (by have := hi.1; omega) (by have := hi.2; omega)
        rw [hw]
        obtain ⟨T, hT⟩ : ∃ T, T = entB (i + 1) t e := ⟨_, rfl⟩
        have hm : mayF i t (e :: rest) = (T && mayF (i + 1) e.tm rest) := by rw [mayF, hT, decide_eq_false (p := i = _) h0]; rfl
        refine M.mid ((54, .c (.p (.bs (!T)))) :: (8, .c (.ptr 0 0)) :: mayE z c l pre (i + 1) t) ⟨[(0, some (.row (e.cs.map XC.p) true))], 1⟩ ?_ ?_
        · refine M.decN rfl (fun h1 => ?_) (fun h1 => ?_)
          · refine M.go rfl (M.end [(0, 0)] rfl ⟨⟨_, _, rfl, rfl, Wk.b1 (by rw [hT]; simp [entB, h1])⟩, (by repeat' (first | exact True.intro | refine ⟨⟨_, _, rfl, rfl, Wk.rfl⟩, ?_⟩ | refine ⟨⟨_, _, accV_ren rfl, rfl, Wk.rfl⟩, ?_⟩ | refine ⟨⟨_, _, accV_ren rfl, rfl, Wk.acc0⟩, ?_⟩ | refine ⟨⟨_, _, rfl, rfl, Wk.uncap⟩, ?_⟩ | refine ⟨⟨_, _, rfl, rfl, Wk.nil⟩, ?_⟩))⟩ (by repeat' (first | exact True.intro | refine ⟨⟨_, _, _, rfl, rfl, rfl, WkO.rfl⟩, ?_⟩ | refine HeapOK.acc rfl rfl ?_)))
          · refine M.go rfl ?_
            refine M.dec rfl (fun h2 => ?_) (fun h2 => ?_)
            · refine M.go rfl (M.end [(0, 0)] rfl ⟨⟨_, _, rfl, rfl, Wk.b1 (by rw [hT]; simp [entB, h2])⟩, (by repeat' (first | exact True.intro | refine ⟨⟨_, _, rfl, rfl, Wk.rfl⟩, ?_⟩ | refine ⟨⟨_, _, accV_ren rfl, rfl, Wk.rfl⟩, ?_⟩ | refine ⟨⟨_, _, accV_ren rfl, rfl, Wk.acc0⟩, ?_⟩ | refine ⟨⟨_, _, rfl, rfl, Wk.uncap⟩, ?_⟩ | refine ⟨⟨_, _, rfl, rfl, Wk.nil⟩, ?_⟩))⟩ (by repeat' (first | exact True.intro | refine ⟨⟨_, _, _, rfl, rfl, rfl, WkO.rfl⟩, ?_⟩ | refine HeapOK.acc rfl rfl ?_)))
            · refine M.go rfl ?_
              refine M.dec rfl (fun h3 => ?_) (fun h3 => ?_)
              · refine M.go rfl (M.end [(0, 0)] rfl ⟨⟨_, _, rfl, rfl, Wk.b1 (by rw [hT]; simp [entB, h3])⟩, (by repeat' (first | exact True.intro | refine ⟨⟨_, _, rfl, rfl, Wk.rfl⟩, ?_⟩ | refine ⟨⟨_, _, accV_ren rfl, rfl, Wk.rfl⟩, ?_⟩ | refine ⟨⟨_, _, accV_ren rfl, rfl, Wk.acc0⟩, ?_⟩ | refine ⟨⟨_, _, rfl, rfl, Wk.uncap⟩, ?_⟩ | refine ⟨⟨_, _, rfl, rfl, Wk.nil⟩, ?_⟩))⟩ (by repeat' (first | exact True.intro | refine ⟨⟨_, _, _, rfl, rfl, rfl, WkO.rfl⟩, ?_⟩ | refine HeapOK.acc rfl rfl ?_)))
              · refine M.go rfl ?_
                refine M.dec rfl (fun h4 => ?_) (fun h4 => ?_)
                · refine M.go rfl (M.end [(0, 0)] rfl ⟨⟨_, _, rfl, rfl, Wk.b1 (by rw [hT]; simp [entB, h4])⟩, (by repeat' (first | exact True.intro | refine ⟨⟨_, _, rfl, rfl, Wk.rfl⟩, ?_⟩ | refine ⟨⟨_, _, accV_ren rfl, rfl, Wk.rfl⟩, ?_⟩ | refine ⟨⟨_, _, accV_ren rfl, rfl, Wk.acc0⟩, ?_⟩ | refine ⟨⟨_, _, rfl, rfl, Wk.uncap⟩, ?_⟩ | refine ⟨⟨_, _, rfl, rfl, Wk.nil⟩, ?_⟩))⟩ (by repeat' (first | exact True.intro | refine ⟨⟨_, _, _, rfl, rfl, rfl, WkO.rfl⟩, ?_⟩ | refine HeapOK.acc rfl rfl ?_)))
                · refine M.go rfl ?_
                  refine M.dec rfl (fun h5 => ?_) (fun h5 => ?_)
                  · refine M.go rfl (M.end [(0, 0)] rfl ⟨⟨_, _, rfl, rfl, Wk.b1 (by rw [hT]; simp [entB, h5])⟩, (by repeat' (first | exact True.intro | refine ⟨⟨_, _, rfl, rfl, Wk.rfl⟩, ?_⟩ | refine ⟨⟨_, _, accV_ren rfl, rfl, Wk.rfl⟩, ?_⟩ | refine ⟨⟨_, _, accV_ren rfl, rfl, Wk.acc0⟩, ?_⟩ | refine ⟨⟨_, _, rfl, rfl, Wk.uncap⟩, ?_⟩ | refine ⟨⟨_, _, rfl, rfl, Wk.nil⟩, ?_⟩))⟩ (by repeat' (first | exact True.intro | refine ⟨⟨_, _, _, rfl, rfl, rfl, WkO.rfl⟩, ?_⟩ | refine HeapOK.acc rfl rfl ?_)))
                  · refine M.go rfl ?_
                    refine M.dec rfl (fun h6 => ?_) (fun h6 => ?_)
                    · refine M.go rfl ?_
                      refine M.use0 rfl (members_spec e.z e.c e.d he.d) rfl rfl rfl ?_
                      refine M.go rfl (M.end [(0, 0)] rfl ⟨⟨_, _, rfl, rfl, Wk.b2 (by rw [hT]; simp [entB, h1, h2, h3, h4, h5, h6, nums, inP])⟩, (by repeat' (first | exact True.intro | refine ⟨⟨_, _, rfl, rfl, Wk.rfl⟩, ?_⟩ | refine ⟨⟨_, _, accV_ren rfl, rfl, Wk.rfl⟩, ?_⟩ | refine ⟨⟨_, _, accV_ren rfl, rfl, Wk.acc0⟩, ?_⟩ | refine ⟨⟨_, _, rfl, rfl, Wk.uncap⟩, ?_⟩ | refine ⟨⟨_, _, rfl, rfl, Wk.nil⟩, ?_⟩))⟩ (by repeat' (first | exact True.intro | refine ⟨⟨_, _, _, rfl, rfl, rfl, WkO.rfl⟩, ?_⟩ | refine HeapOK.acc rfl rfl ?_)))
                    · refine M.go rfl (M.end [(0, 0)] rfl ⟨⟨_, _, rfl, rfl, Wk.b1 (by rw [hT]; simp [entB, h1, h2, h3, h4, h5, h6])⟩, (by repeat' (first | exact True.intro | refine ⟨⟨_, _, rfl, rfl, Wk.rfl⟩, ?_⟩ | refine ⟨⟨_, _, accV_ren rfl, rfl, Wk.rfl⟩, ?_⟩ | refine ⟨⟨_, _, accV_ren rfl, rfl, Wk.acc0⟩, ?_⟩ | refine ⟨⟨_, _, rfl, rfl, Wk.uncap⟩, ?_⟩ | refine ⟨⟨_, _, rfl, rfl, Wk.nil⟩, ?_⟩))⟩ (by repeat' (first | exact True.intro | refine ⟨⟨_, _, _, rfl, rfl, rfl, WkO.rfl⟩, ?_⟩ | refine HeapOK.acc rfl rfl ?_)))
        · refine M.go rfl ?_
          refine M.condB rfl (fun hc => ?_) (fun hc => ?_)
          · refine M.go rfl ?_
            refine M.ren [] ?_ trivial rfl (by repeat' (first | exact True.intro | refine ⟨⟨_, _, rfl, rfl, Wk.rfl⟩, ?_⟩ | refine ⟨⟨_, _, accV_ren rfl, rfl, Wk.rfl⟩, ?_⟩ | refine ⟨⟨_, _, accV_ren rfl, rfl, Wk.acc0⟩, ?_⟩ | refine ⟨⟨_, _, rfl, rfl, Wk.uncap⟩, ?_⟩ | refine ⟨⟨_, _, rfl, rfl, Wk.nil⟩, ?_⟩)) (by repeat' (first | exact True.intro | refine ⟨⟨_, _, _, rfl, rfl, rfl, WkO.rfl⟩, ?_⟩ | refine HeapOK.acc rfl rfl ?_)) (e' := [(6, .c (.p (.bool false)))]) (h' := ⟨[], 0⟩)
            exact M.ret (M.go rfl (M.done (hr (by rw [hm]; rw [Bool.not_eq_true'] at hc; rw [hc]; rfl))))
          · refine M.go rfl ?_
            have hbb : T = true := by simpa using hc
            have h7 : e.ix = i + 1 := by rw [hT] at hbb; simp [entB] at hbb; exact hbb.1
            rw [hm, hbb, Bool.true_and] at hq hr
            have ih' := ih (pre ++ [e]) (i + 1) e.tm (by rw [hp]; simp) (by rw [← h7]; exact he.ix) hq hr
            have hw2 : IntKind.i64.wrap ((pre.length : Int) + 1) = ((pre ++ [e]).length : Int) := by rw [wr64 (by omega) (by omega)]; simp
            rw [hw2]
            exact M.again (XH.ren [] ih' rfl (by repeat' (first | exact True.intro | refine ⟨⟨_, _, rfl, rfl, Wk.rfl⟩, ?_⟩ | refine ⟨⟨_, _, accV_ren rfl, rfl, Wk.rfl⟩, ?_⟩ | refine ⟨⟨_, _, accV_ren rfl, rfl, Wk.acc0⟩, ?_⟩ | refine ⟨⟨_, _, rfl, rfl, Wk.uncap⟩, ?_⟩ | refine ⟨⟨_, _, rfl, rfl, Wk.nil⟩, ?_⟩)) (by repeat' (first | exact True.intro | refine ⟨⟨_, _, _, rfl, rfl, rfl, WkO.rfl⟩, ?_⟩ | refine HeapOK.acc rfl rfl ?_)))
    · rw [hlen] at hc; omega
theorem may_spec (z : Bool) (c : Option Nat) (l : List Ent) (i t : Int) (hl : l.length ≤ 100000000000) (hok : ∀ e ∈ l, e.ok) (hi : I64 i) : CallS Try.prog base 91 [.c (.p (.int .i64 i)), .c (.p (.int .i64 t)), .c (.p (.tz z 4 (entP l) c))] ⟨[], 0⟩ (.c (.p (.bs (mayF i t l)))) ⟨[], 0⟩ := by
  refine CallS.of noNG lMay.2 rfl (M.start (M.go rfl ?_))
  refine M.loop (XH.ren [] (may_loop z c l hl hok _ l [] i t rfl hi ?_ ?_) rfl (by repeat' (first | exact True.intro | refine ⟨⟨_, _, rfl, rfl, Wk.rfl⟩, ?_⟩ | refine ⟨⟨_, _, accV_ren rfl, rfl, Wk.rfl⟩, ?_⟩ | refine ⟨⟨_, _, accV_ren rfl, rfl, Wk.acc0⟩, ?_⟩ | refine ⟨⟨_, _, rfl, rfl, Wk.uncap⟩, ?_⟩ | refine ⟨⟨_, _, rfl, rfl, Wk.nil⟩, ?_⟩)) (by repeat' (first | exact True.intro | refine ⟨⟨_, _, _, rfl, rfl, rfl, WkO.rfl⟩, ?_⟩ | refine HeapOK.acc rfl rfl ?_)))
  · intro hm
    refine M.q (M.go rfl ?_)
    exact M.ret (M.go rfl (M.done (finQ.ret [] rfl rfl rfl (Wk.b1 hm) (by repeat' (first | exact True.intro | refine ⟨⟨_, _, _, rfl, rfl, rfl, WkO.rfl⟩, ?_⟩ | refine HeapOK.acc rfl rfl ?_)))))
  · intro hm
    refine M.q (M.go rfl ?_)
    exact M.done (finQ.ret [] rfl rfl rfl (Wk.b1 hm) (by repeat' (first | exact True.intro | refine ⟨⟨_, _, _, rfl, rfl, rfl, WkO.rfl⟩, ?_⟩ | refine HeapOK.acc rfl rfl ?_)))
end Go.Proofs.Yteegdhfekemhmaa
