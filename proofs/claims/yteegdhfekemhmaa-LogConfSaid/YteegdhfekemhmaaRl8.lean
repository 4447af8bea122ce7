/- delphilaw20.LogConf: its loops. -/
import Derived.Test.YteegdhfekemhmaaRl7
namespace Go.Proofs.Yteegdhfekemhmaa
open Go.RowKit Sim Go Sym
set_option maxRecDepth 100000
set_option linter.unusedVariables false
set_option linter.unusedSimpArgs false
variable {base : Nat}
theorem iaOn {P : Program} {n : Nat} {e : Env} {h : HS} {s b m' j : Nat} {x i : LX} {c : Option Nat} {k : IntKind} (hx : xev e x = some (.c (.sl b 0 m' s c))) (hi : xev e i = some (.c (.p (.int k (j : Nat))))) (h1 : j < m') :
    SOp P n (.ia s x i) e h (.c (.ptr b (j * s + 0))) h := by
  have := SOp.iaO (P := P) (n := n) (h := h) hx hi (by omega) (by omega)
  simpa using this
theorem wru8 {n : Int} (h : 0 ≤ n) (h' : n < 256) : IntKind.u8.wrap n = n := by
  have hs : IntKind.u8.signed = false := rfl
  have hb : IntKind.u8.bits = 8 := rfl
  unfold IntKind.wrap
  simp only [hs, hb, Bool.false_and]
  simp
  omega
noncomputable def lLc : {F : LF // lowerF Try.prog 5 = some F} := ⟨_, rfl⟩
theorem conf_build (z : Bool) (cA : Option Nat) (A : List Int) (cut : Int) (hA : A.length ≤ 140737488355328) (B : List Int) (hB : B = A.take 20) (Q : QX)
    (hq : Q (.exit 0) [(6, .c (.p (cPC [1, 2, 3]))), (7, .c (.sl 1 0 (B.length + 1) 1 none)), (8, accV 0 4 (entP (cEs 0 B))), (1, .c (.p (.int .i64 cut)))] ⟨[(1, some (.els 1 (cfP B))), (0, accO 4 (entP (cEs 0 B)))], 2⟩) :
    ∀ (rest pre : List Int), A = pre ++ rest → pre.length ≤ 20 → XH Try.prog base lLc.1.n 0 (lLc.1.c.lp 0) [(9, .c (.p (.int .i64 pre.length))), (0, .c (.p (.tz z 1 (inP A) cA))), (6, .c (.p (cPC [1, 2, 3]))), (7, .c (.sl 1 0 (pre.length + 1) 1 none)), (8, accV 0 4 (entP (cEs 0 pre))), (1, .c (.p (.int .i64 cut)))] ⟨[(1, some (.els 1 (cfP pre))), (0, accO 4 (entP (cEs 0 pre)))], 2⟩ Q := by
  intro rest
  induction rest with
  | nil =>
    intro pre hp hn
    obtain rfl : B = pre := by rw [hB, hp, List.append_nil, List.take_of_length_le hn]
    refine M.round (M.go rfl ?_)
    have hlen : (inP A).length = B.length := by rw [hp, inP_len, List.append_nil]
    rw [hlen]
    refine M.dec rfl (fun hc => absurd hc (by omega)) (fun hc => ?_)
    refine M.go rfl ?_
    refine M.ren [(0, 0), (1, 1)] ?_ trivial rfl (by repeat' (first | exact True.intro | refine ⟨⟨_, _, rfl, rfl, Wk.rfl⟩, ?_⟩ | refine ⟨⟨_, _, accV_ren rfl, rfl, Wk.rfl⟩, ?_⟩ | refine ⟨⟨_, _, accV_ren rfl, rfl, Wk.acc0⟩, ?_⟩ | refine ⟨⟨_, _, rfl, rfl, Wk.uncap⟩, ?_⟩ | refine ⟨⟨_, _, rfl, rfl, Wk.nil⟩, ?_⟩)) (by repeat' (first | exact True.intro | refine ⟨⟨_, _, _, rfl, rfl, rfl, WkO.rfl⟩, ?_⟩ | refine HeapOK.acc rfl rfl ?_)) (e' := [(6, .c (.p (cPC [1, 2, 3]))), (7, .c (.sl 1 0 (B.length + 1) 1 none)), (8, accV 0 4 (entP (cEs 0 B))), (1, .c (.p (.int .i64 cut)))]) (h' := ⟨[(1, some (.els 1 (cfP B))), (0, accO 4 (entP (cEs 0 B)))], 2⟩)
    exact M.exit (M.go rfl (M.done hq))
  | cons a rest ih =>
    intro pre hp hn
    refine M.round (M.go rfl ?_)
    have hlen : (inP A).length = pre.length + (rest.length + 1) := by rw [hp, inP_len]; simp
    have hu : (inP A)[((pre.length : Int)).toNat]? = some (.int .i64 a) := by rw [hp]; exact at_app _ _ _ _
    refine M.dec rfl (fun hc => ?_) (fun hc => absurd hc (by omega))
    refine M.go rfl ?_
    refine M.cond rfl (fun h20 => ?_) (fun h20 => ?_)
    · have hw1 : IntKind.i64.wrap ((pre.length : Int) + 1) = (pre.length : Int) + 1 := wr64 (by omega) (by omega)
      have hw2 : (pre.length : Int) + 1 = ((pre ++ [a]).length : Int) := by simp
      have ih' := ih (pre ++ [a]) (by rw [hp]; simp) (by simp; omega)
      refine M.goN 9 rfl ?_
      rw [hw1]
      refine M.wkO (i := 33) (v' := .agg [.p (.int .i64 ((pre.length : Int) + 1)), .p (.int .i64 1), .p (.int .i64 2), .p (.tz true 1 [] none)]) rfl Wk.rfl ?_
      refine M.go rfl ?_
      have hcp : (cfP pre)[pre.length]? = some (cPC (cur pre)) := by rw [cfP_get pre _ (Nat.le_refl _), List.take_of_length_le (Nat.le_refl _)]
      refine M.op trivial (iaOn rfl rfl (by omega)) ?_
      refine M.op trivial (SOp.ld1O rfl rfl hcp rfl rfl rfl) ?_
      refine M.go rfl ?_
      refine M.op trivial (SOp.ia rfl rfl (by omega) hu) ?_
      refine M.op trivial (SOp.ld1e rfl hu rfl rfl rfl) ?_
      refine M.go rfl ?_
      rw [cEs_app, cfP_app, ← hw2, show (pre ++ [a]).length = pre.length + 1 by simp] at ih'
      refine M.dec rfl (fun h1 => ?_) (fun h1 => ?_)
      · refine M.go rfl ?_
        refine M.op rfl (SOp.ia rfl rfl (by omega) hu) ?_
        refine M.op rfl (SOp.ld1e rfl hu rfl rfl rfl) ?_
        refine M.go rfl ?_
        refine M.cond rfl (fun h2 => ?_) (fun h2 => ?_)
        · have hc : cfIs a := ⟨h1, h2⟩
          have ha : ((a.toNat : Nat) : Int) = a := by omega
          have e1 : cEs (0 + pre.length) [a] = [⟨(pre.length : Int) + 1, 1, 3, false, [a.toNat], some 1⟩] := by rw [Nat.zero_add, cEs, cEs, cEnt, if_pos hc]
          have e2 : cLast (cur pre) a = [a] := if_pos hc
          rw [e1, e2, show ∀ x : Ent, entP (cEs 0 pre ++ [x]) = entP (cEs 0 pre) ++ [x.pc] from fun x => by simp [entP]] at ih'
          refine M.go rfl ?_
          refine M.op trivial (SOp.ia rfl rfl (by omega) hu) ?_
          refine M.op trivial (SOp.ld1e rfl hu rfl rfl rfl) ?_
          refine M.go rfl ?_
          rw [show IntKind.u8.wrap a = ((a.toNat : Nat) : Int) by rw [wru8 (by omega) (by omega)]; omega]
          refine M.freezeRO (b0 := 2) (o := 3) (b := 3) rfl rfl rfl rfl rfl rfl ?_
          refine M.op trivial (SOp.ia rfl rfl (by omega) hu) ?_
          refine M.op trivial (SOp.ld1e rfl hu rfl rfl rfl) ?_
          refine M.go rfl ?_
          refine M.freezeO (i := 11) rfl rfl rfl ?_
          refine M.wkO (i := 11) (v' := .c (.p (cPC [a]))) rfl Wk.uncap ?_
          refine M.acc trivial rfl rfl rfl (.own rfl rfl) (by simp) (by rw [entP_len, cEs_len]; simp; omega) ?_
          refine M.go rfl ?_
          refine M.op trivial (SOp.appO rfl rfl (by rw [cfP_len]) rfl (.own rfl rfl) (by simp) (by rw [cfP_len]; simp; omega)) ?_
          refine M.go rfl ?_
          rw [hw1, cfP_len]
          exact M.again (XH.ren [(0, 6), (1, 8)] ih' rfl (by repeat' (first | exact True.intro | refine ⟨⟨_, _, rfl, rfl, Wk.rfl⟩, ?_⟩ | refine ⟨⟨_, _, accV_ren rfl, rfl, Wk.rfl⟩, ?_⟩ | refine ⟨⟨_, _, accV_ren rfl, rfl, Wk.acc0⟩, ?_⟩ | refine ⟨⟨_, _, rfl, rfl, Wk.uncap⟩, ?_⟩ | refine ⟨⟨_, _, rfl, rfl, Wk.nil⟩, ?_⟩)) (by repeat' (first | exact True.intro | refine ⟨⟨_, _, _, rfl, rfl, rfl, WkO.rfl⟩, ?_⟩ | refine HeapOK.acc rfl rfl ?_)))
        · have hc : ¬ cfIs a := fun h => h2 h.2
          have e1 : cEs (0 + pre.length) [a] = [⟨(pre.length : Int) + 1, 1, 2, true, [], none⟩] := by rw [Nat.zero_add, cEs, cEs, cEnt, if_neg hc]
          have e2 : cLast (cur pre) a = cur pre := if_neg hc
          rw [e1, e2, show ∀ x : Ent, entP (cEs 0 pre ++ [x]) = entP (cEs 0 pre) ++ [x.pc] from fun x => by simp [entP]] at ih'
          refine M.go rfl ?_
          refine M.acc trivial rfl rfl rfl (.own rfl rfl) (by simp) (by rw [entP_len, cEs_len]; simp; omega) ?_
          refine M.go rfl ?_
          refine M.op trivial (SOp.appO rfl rfl (by rw [cfP_len]) rfl (.own rfl rfl) (by simp) (by rw [cfP_len]; simp; omega)) ?_
          refine M.go rfl ?_
          rw [hw1, cfP_len]
          exact M.again (XH.ren [(0, 4), (1, 6)] ih' rfl (by repeat' (first | exact True.intro | refine ⟨⟨_, _, rfl, rfl, Wk.rfl⟩, ?_⟩ | refine ⟨⟨_, _, accV_ren rfl, rfl, Wk.rfl⟩, ?_⟩ | refine ⟨⟨_, _, accV_ren rfl, rfl, Wk.acc0⟩, ?_⟩ | refine ⟨⟨_, _, rfl, rfl, Wk.uncap⟩, ?_⟩ | refine ⟨⟨_, _, rfl, rfl, Wk.nil⟩, ?_⟩)) (by repeat' (first | exact True.intro | refine ⟨⟨_, _, _, rfl, rfl, rfl, WkO.rfl⟩, ?_⟩ | refine HeapOK.acc rfl rfl ?_)))
      · refine M.go rfl ?_
        have hc : ¬ cfIs a := fun h => h1 h.1
        have e1 : cEs (0 + pre.length) [a] = [⟨(pre.length : Int) + 1, 1, 2, true, [], none⟩] := by rw [Nat.zero_add, cEs, cEs, cEnt, if_neg hc]
        have e2 : cLast (cur pre) a = cur pre := if_neg hc
        rw [e1, e2, show ∀ x : Ent, entP (cEs 0 pre ++ [x]) = entP (cEs 0 pre) ++ [x.pc] from fun x => by simp [entP]] at ih'
        refine M.go rfl ?_
        refine M.acc trivial rfl rfl rfl (.own rfl rfl) (by simp) (by rw [entP_len, cEs_len]; simp; omega) ?_
        refine M.go rfl ?_
        refine M.op trivial (SOp.appO rfl rfl (by rw [cfP_len]) rfl (.own rfl rfl) (by simp) (by rw [cfP_len]; simp; omega)) ?_
        refine M.go rfl ?_
        rw [hw1, cfP_len]
        exact M.again (XH.ren [(0, 4), (1, 6)] ih' rfl (by repeat' (first | exact True.intro | refine ⟨⟨_, _, rfl, rfl, Wk.rfl⟩, ?_⟩ | refine ⟨⟨_, _, accV_ren rfl, rfl, Wk.rfl⟩, ?_⟩ | refine ⟨⟨_, _, accV_ren rfl, rfl, Wk.acc0⟩, ?_⟩ | refine ⟨⟨_, _, rfl, rfl, Wk.uncap⟩, ?_⟩ | refine ⟨⟨_, _, rfl, rfl, Wk.nil⟩, ?_⟩)) (by repeat' (first | exact True.intro | refine ⟨⟨_, _, _, rfl, rfl, rfl, WkO.rfl⟩, ?_⟩ | refine HeapOK.acc rfl rfl ?_)))
    · obtain rfl : B = pre := by rw [hB, hp, List.take_append_of_le_length (by omega), List.take_of_length_le (by omega)]
      refine M.ren [(0, 0), (1, 1)] ?_ trivial rfl (by repeat' (first | exact True.intro | refine ⟨⟨_, _, rfl, rfl, Wk.rfl⟩, ?_⟩ | refine ⟨⟨_, _, accV_ren rfl, rfl, Wk.rfl⟩, ?_⟩ | refine ⟨⟨_, _, accV_ren rfl, rfl, Wk.acc0⟩, ?_⟩ | refine ⟨⟨_, _, rfl, rfl, Wk.uncap⟩, ?_⟩ | refine ⟨⟨_, _, rfl, rfl, Wk.nil⟩, ?_⟩)) (by repeat' (first | exact True.intro | refine ⟨⟨_, _, _, rfl, rfl, rfl, WkO.rfl⟩, ?_⟩ | refine HeapOK.acc rfl rfl ?_)) (e' := [(6, .c (.p (cPC [1, 2, 3]))), (7, .c (.sl 1 0 (B.length + 1) 1 none)), (8, accV 0 4 (entP (cEs 0 B))), (1, .c (.p (.int .i64 cut)))]) (h' := ⟨[(1, some (.els 1 (cfP B))), (0, accO 4 (entP (cEs 0 B)))], 2⟩)
      exact M.exit (M.go rfl (M.done hq))
end Go.Proofs.Yteegdhfekemhmaa
