/- delphilaw20.LogCut: its walk. -/
import Derived.Test.YteegdhfekemhmaaRl5
namespace Go.Proofs.Yteegdhfekemhmaa
open Go.RowKit Sim Go Sym
set_option maxRecDepth 100000
set_option linter.unusedVariables false
set_option linter.unusedSimpArgs false
variable {base : Nat}
theorem begun_spec : CallS Try.prog base 30 [] ⟨[], 0⟩ (.c (.p (.bool true))) ⟨[], 0⟩ := CallS.closed (m := 2000) mixed noNG (by kernel_rfl)
/-- The snapshot that it begins with. -/
def cutS (b : Int) : Snp := ⟨b, 1, true, [], none, true, [], none⟩
theorem cutS_ok (b : Int) (hb : 0 ≤ b) (hb2 : b ≤ 1099511627776) : (cutS b).ok := ⟨⟨by simp [cutS]; omega, by simp [cutS]; omega⟩, ⟨by simp [cutS], by simp [cutS]⟩, ⟨by simp [cutS], by simp [cutS]⟩, ⟨by simp [cutS], by simp [cutS]⟩⟩
def cutL (b : Int) (n : Nat) : PLog := ⟨cutS b, seqE b 2 n, true, none⟩
def cutL2 (b : Int) (f m : Nat) : PLog := ⟨cutS b, seqE b 2 f ++ seqE (b + f) 3 m, true, none⟩
theorem cutL_ok (b : Int) (n : Nat) (hb : 0 ≤ b) (hb2 : b ≤ 1099511627776) (hn : n ≤ 30) : (cutL b n).ok := ⟨cutS_ok b hb hb2, hb, by simp [PLog.last, cutL, cutS, seqE_len]; omega, by simp [cutL, seqE_len]; omega, seqE_ok b 2 n hb (by omega) ⟨by omega, by omega⟩⟩
theorem cutL2_ok (b : Int) (f m : Nat) (hb : 0 ≤ b) (hb2 : b ≤ 1099511627776) (hf : f ≤ 30) (hm : m ≤ 20) : (cutL2 b f m).ok := ⟨cutS_ok b hb hb2, hb, by simp [PLog.last, cutL2, cutS, seqE_len]; omega, by simp [cutL2, seqE_len]; omega, by
  intro e he
  simp only [cutL2, List.mem_append] at he
  rcases he with he | he
  · exact seqE_ok b 2 f hb (by omega) ⟨by omega, by omega⟩ e he
  · exact seqE_ok (b + f) 3 m (by omega) (by omega) ⟨by omega, by omega⟩ e he⟩
theorem cutL2_last (b : Int) (f m : Nat) : (cutL2 b f m).last = b + (f + m) := by simp [PLog.last, cutL2, cutS, seqE_len]
theorem cut_new (b : Int) (n : Nat) (hb : 0 ≤ b) (hb2 : b ≤ 1099511627776) (hn : n ≤ 30) : newOk (cutS b) (seqE b 2 n) = true := by
  have h1 : ¬ b < 0 := by omega
  simp [newOk, cutS, h1, seqE_may 2 (by omega) n b 1 (by omega) (by omega)]
theorem seqE_get (b t : Int) (k j : Nat) (h : j < k) : (seqE b t k)[j]? = some (entQ (b + (j + 1)) t) := by simp [seqE, h]
theorem cut_term2 (b : Int) (f m : Nat) (i : Int) (h1 : 1 ≤ i) (h2 : i ≤ f) : (cutL2 b f m).term (b + i) = (2, true) := by
  have hl : (cutL2 b f m).last = b + (f + m) := cutL2_last b f m
  have h3 : (cutL2 b f m).S.ix = b := rfl
  have h4 : (b + i - b - 1).toNat < f := by omega
  rw [PLog.term, if_neg (by rw [h3]; omega), if_neg (by rw [h3, hl]; omega), PLog.at', h3]
  have : (seqE b 2 f ++ seqE (b + f) 3 m)[(b + i - b - 1).toNat]? = some (entQ (b + (((b + i - b - 1).toNat : Nat) + 1)) 2) := by rw [List.getElem?_append_left (by rw [seqE_len]; exact h4), seqE_get b 2 f _ h4]
  rw [List.getD_eq_getElem?_getD, show (cutL2 b f m).E = seqE b 2 f ++ seqE (b + f) 3 m from rfl, this]
  rfl
theorem cut_term3 (b : Int) (f m : Nat) (i : Int) (h1 : f < i) (h2 : i ≤ f + m) : (cutL2 b f m).term (b + i) = (3, true) := by
  have hl : (cutL2 b f m).last = b + (f + m) := cutL2_last b f m
  have h3 : (cutL2 b f m).S.ix = b := rfl
  rw [PLog.term, if_neg (by rw [h3]; omega), if_neg (by rw [h3, hl]; omega), PLog.at', h3]
  have h5 : (b + i - b - 1).toNat - f < m := by omega
  have : ∃ x, (seqE b 2 f ++ seqE (b + f) 3 m)[(b + i - b - 1).toNat]? = some (entQ x 3) := by rw [List.getElem?_append_right (by rw [seqE_len]; omega), seqE_len, seqE_get _ 3 m _ h5]; exact ⟨_, rfl⟩
  obtain ⟨x, hx⟩ := this
  rw [List.getD_eq_getElem?_getD, show (cutL2 b f m).E = seqE b 2 f ++ seqE (b + f) 3 m from rfl, hx]
  rfl
theorem cut_put (b : Int) (n f m : Nat) (hb : 0 ≤ b) (hb2 : b ≤ 1099511627776) (hn : n ≤ 30) (hf : f ≤ n) (hm : m + 1 ≤ 20) : (cutL b n).putOk (entQ (b + f + 1) 3 :: seqE (b + f + 1) 3 m) = true := by
  have hl : (cutL b n).last = b + n := by simp [PLog.last, cutL, cutS, seqE_len]
  have h3 : (cutL b n).S.ix = b := rfl
  have ht : ((cutL b n).term (b + f + 1 - 1)).1 ≤ 3 := by
    rw [PLog.term]
    split
    · exact (by decide : (1 : Int) ≤ 3)
    · rw [h3, hl, if_neg (by omega), PLog.at', h3]
      have h4 : (b + f + 1 - 1 - b - 1).toNat < n := by omega
      have : (seqE b 2 n)[(b + f + 1 - 1 - b - 1).toNat]? = some (entQ (b + (((b + f + 1 - 1 - b - 1).toNat : Nat) + 1)) 2) := seqE_get b 2 n _ h4
      rw [List.getD_eq_getElem?_getD, show (cutL b n).E = seqE b 2 n from rfl, this]
      exact (by decide : (2 : Int) ≤ 3)
  have hm2 := seqE_may 3 (by omega) (m + 1) (b + f) ((cutL b n).term (b + f + 1 - 1)).1 ht (by omega)
  rw [seqE_cons, show b + f = b + f + 1 - 1 by omega] at hm2
  rw [PLog.putOk, h3, hl, show (entQ (b + f + 1) 3).ix = b + f + 1 from rfl]
  rw [show b + (f : Int) + 1 - 1 + 1 = b + f + 1 by omega] at hm2
  rw [hm2]
  simp
  omega
theorem cut_put_eq (b : Int) (n f m : Nat) (hf : f ≤ n) : (cutL b n).put (entQ (b + f + 1) 3 :: seqE (b + f + 1) 3 m) = cutL2 b f (m + 1) := by
  have h1 : (b + (f : Int) + 1 - b - 1).toNat = f := by omega
  have h2 : (seqE b 2 n).take f = seqE b 2 f := by simp [seqE, ← List.map_take, List.take_range, Nat.min_eq_left hf]
  rw [← seqE_cons]
  simp only [PLog.put, cutL, cutL2, seqE_own]
  rw [show ((seqE (b + f) 3 (m + 1)).headD default).ix = b + f + 1 by rw [seqE_cons]; rfl, show (cutS b).ix = b from rfl, h1, h2]
theorem LogCut_spec (b n f m : Int) : CallS Try.prog base 6 [.c (.p (.int .i64 b)), .c (.p (.int .i64 n)), .c (.p (.int .i64 f)), .c (.p (.int .i64 m))] ⟨[], 0⟩ (.c (.p (.bool true))) ⟨[], 0⟩ := by
  refine CallS.of noNG lCut.2 rfl (M.start (M.go rfl ?_))
  refine M.use0 trivial begun_spec rfl rfl rfl ?_
  refine M.go rfl ?_
  refine M.dec rfl (fun h => ?_) (fun h1 => ?_)
  · refine M.go rfl ?_
    exact M.ret (M.go rfl (M.done (finQ.ret [] rfl rfl rfl (by first | exact Wk.rfl | exact Wk.uncap | exact Wk.nil | exact Wk.b1 rfl | exact Wk.t2 Wk.rfl (Wk.b1 rfl)) (by repeat' (first | exact True.intro | refine ⟨⟨_, _, _, rfl, rfl, rfl, WkO.rfl⟩, ?_⟩ | refine HeapOK.acc rfl rfl ?_)))))
  refine M.go rfl ?_
  refine M.dec rfl (fun h => ?_) (fun h2 => ?_)
  · refine M.go rfl ?_
    exact M.ret (M.go rfl (M.done (finQ.ret [] rfl rfl rfl (by first | exact Wk.rfl | exact Wk.uncap | exact Wk.nil | exact Wk.b1 rfl | exact Wk.t2 Wk.rfl (Wk.b1 rfl)) (by repeat' (first | exact True.intro | refine ⟨⟨_, _, _, rfl, rfl, rfl, WkO.rfl⟩, ?_⟩ | refine HeapOK.acc rfl rfl ?_)))))
  refine M.go rfl ?_
  refine M.dec rfl (fun h => ?_) (fun h3 => ?_)
  · refine M.go rfl ?_
    exact M.ret (M.go rfl (M.done (finQ.ret [] rfl rfl rfl (by first | exact Wk.rfl | exact Wk.uncap | exact Wk.nil | exact Wk.b1 rfl | exact Wk.t2 Wk.rfl (Wk.b1 rfl)) (by repeat' (first | exact True.intro | refine ⟨⟨_, _, _, rfl, rfl, rfl, WkO.rfl⟩, ?_⟩ | refine HeapOK.acc rfl rfl ?_)))))
  refine M.go rfl ?_
  refine M.dec rfl (fun h => ?_) (fun h4 => ?_)
  · refine M.go rfl ?_
    exact M.ret (M.go rfl (M.done (finQ.ret [] rfl rfl rfl (by first | exact Wk.rfl | exact Wk.uncap | exact Wk.nil | exact Wk.b1 rfl | exact Wk.t2 Wk.rfl (Wk.b1 rfl)) (by repeat' (first | exact True.intro | refine ⟨⟨_, _, _, rfl, rfl, rfl, WkO.rfl⟩, ?_⟩ | refine HeapOK.acc rfl rfl ?_)))))
  refine M.go rfl ?_
  refine M.dec rfl (fun h => ?_) (fun h5 => ?_)
  · refine M.go rfl ?_
    exact M.ret (M.go rfl (M.done (finQ.ret [] rfl rfl rfl (by first | exact Wk.rfl | exact Wk.uncap | exact Wk.nil | exact Wk.b1 rfl | exact Wk.t2 Wk.rfl (Wk.b1 rfl)) (by repeat' (first | exact True.intro | refine ⟨⟨_, _, _, rfl, rfl, rfl, WkO.rfl⟩, ?_⟩ | refine HeapOK.acc rfl rfl ?_)))))
  refine M.go rfl ?_
  refine M.dec rfl (fun h => ?_) (fun h6 => ?_)
  · refine M.go rfl ?_
    exact M.ret (M.go rfl (M.done (finQ.ret [] rfl rfl rfl (by first | exact Wk.rfl | exact Wk.uncap | exact Wk.nil | exact Wk.b1 rfl | exact Wk.t2 Wk.rfl (Wk.b1 rfl)) (by repeat' (first | exact True.intro | refine ⟨⟨_, _, _, rfl, rfl, rfl, WkO.rfl⟩, ?_⟩ | refine HeapOK.acc rfl rfl ?_)))))
  refine M.go rfl ?_
  refine M.dec rfl (fun h => ?_) (fun h7 => ?_)
  · refine M.go rfl ?_
    exact M.ret (M.go rfl (M.done (finQ.ret [] rfl rfl rfl (by first | exact Wk.rfl | exact Wk.uncap | exact Wk.nil | exact Wk.b1 rfl | exact Wk.t2 Wk.rfl (Wk.b1 rfl)) (by repeat' (first | exact True.intro | refine ⟨⟨_, _, _, rfl, rfl, rfl, WkO.rfl⟩, ?_⟩ | refine HeapOK.acc rfl rfl ?_)))))
  refine M.go rfl ?_
  refine M.cond rfl (fun h => ?_) (fun h8 => ?_)
  · refine M.go rfl ?_
    exact M.ret (M.go rfl (M.done (finQ.ret [] rfl rfl rfl (by first | exact Wk.rfl | exact Wk.uncap | exact Wk.nil | exact Wk.b1 rfl | exact Wk.t2 Wk.rfl (Wk.b1 rfl)) (by repeat' (first | exact True.intro | refine ⟨⟨_, _, _, rfl, rfl, rfl, WkO.rfl⟩, ?_⟩ | refine HeapOK.acc rfl rfl ?_)))))
  refine M.go rfl ?_
  obtain ⟨N, hN⟩ : ∃ N : Nat, n = N := ⟨n.toNat, by omega⟩
  obtain ⟨F, hF⟩ : ∃ F : Nat, f = F := ⟨f.toNat, by omega⟩
  obtain ⟨M', hM⟩ : ∃ M' : Nat, m = (M' + 1 : Nat) := ⟨m.toNat - 1, by omega⟩
  subst hN hF hM
  refine M.loop (XH.ren [(0, 0)] (cutA b N F (M' + 1 : Nat) N rfl (by omega) (by omega) (by omega) _ ?_ N 0 (by omega)) rfl (by repeat' (first | exact True.intro | refine ⟨⟨_, _, rfl, rfl, Wk.rfl⟩, ?_⟩ | refine ⟨⟨_, _, accV_ren rfl, rfl, Wk.rfl⟩, ?_⟩ | refine ⟨⟨_, _, accV_ren rfl, rfl, Wk.acc0⟩, ?_⟩ | refine ⟨⟨_, _, rfl, rfl, Wk.uncap⟩, ?_⟩ | refine ⟨⟨_, _, rfl, rfl, Wk.nil⟩, ?_⟩)) (by repeat' (first | exact True.intro | refine ⟨⟨_, _, _, rfl, rfl, rfl, WkO.rfl⟩, ?_⟩ | refine HeapOK.acc rfl rfl ?_)))
  refine M.q (M.goN 2 rfl ?_)
  refine M.accF (i := 10) rfl rfl ?_
  refine M.go rfl ?_
  refine M.ren [] ?_ trivial rfl (by repeat' (first | exact True.intro | refine ⟨⟨_, _, rfl, rfl, Wk.rfl⟩, ?_⟩ | refine ⟨⟨_, _, accV_ren rfl, rfl, Wk.rfl⟩, ?_⟩ | refine ⟨⟨_, _, accV_ren rfl, rfl, Wk.acc0⟩, ?_⟩ | refine ⟨⟨_, _, rfl, rfl, Wk.uncap⟩, ?_⟩ | refine ⟨⟨_, _, rfl, rfl, Wk.nil⟩, ?_⟩)) (by repeat' (first | exact True.intro | refine ⟨⟨_, _, _, rfl, rfl, rfl, WkO.rfl⟩, ?_⟩ | refine HeapOK.acc rfl rfl ?_)) (e' := [(13, .c (.p (.int .i64 1))), (0, .c (.p (.int .i64 b))), (1, .c (.p (.int .i64 N))), (2, .c (.p (.int .i64 F))), (3, .c (.p (.int .i64 (M' + 1 : Nat)))), (10, .c (.p (.tz true 4 (entP (seqE b 2 N)) none))), (11, .c (.p (.tz true 0 [] none)))]) (h' := ⟨[], 0⟩)
  refine M.loop (XH.ren [(0, 0)] (cutB b N F (M' + 1 : Nat) (entP (seqE b 2 N)) (M' + 1) rfl (by omega) (by omega) (by omega) (by omega) (by omega) _ ?_ (M' + 1) 0 (by omega)) rfl (by repeat' (first | exact True.intro | refine ⟨⟨_, _, rfl, rfl, Wk.rfl⟩, ?_⟩ | refine ⟨⟨_, _, accV_ren rfl, rfl, Wk.rfl⟩, ?_⟩ | refine ⟨⟨_, _, accV_ren rfl, rfl, Wk.acc0⟩, ?_⟩ | refine ⟨⟨_, _, rfl, rfl, Wk.uncap⟩, ?_⟩ | refine ⟨⟨_, _, rfl, rfl, Wk.nil⟩, ?_⟩)) (by repeat' (first | exact True.intro | refine ⟨⟨_, _, _, rfl, rfl, rfl, WkO.rfl⟩, ?_⟩ | refine HeapOK.acc rfl rfl ?_)))
  refine M.q (M.goN 2 rfl ?_)
  refine M.accF (i := 11) rfl rfl ?_
  refine M.ren [] ?_ trivial rfl (by repeat' (first | exact True.intro | refine ⟨⟨_, _, rfl, rfl, Wk.rfl⟩, ?_⟩ | refine ⟨⟨_, _, accV_ren rfl, rfl, Wk.rfl⟩, ?_⟩ | refine ⟨⟨_, _, accV_ren rfl, rfl, Wk.acc0⟩, ?_⟩ | refine ⟨⟨_, _, rfl, rfl, Wk.uncap⟩, ?_⟩ | refine ⟨⟨_, _, rfl, rfl, Wk.nil⟩, ?_⟩)) (by repeat' (first | exact True.intro | refine ⟨⟨_, _, _, rfl, rfl, rfl, WkO.rfl⟩, ?_⟩ | refine HeapOK.acc rfl rfl ?_)) (e' := [(0, .c (.p (.int .i64 b))), (1, .c (.p (.int .i64 N))), (2, .c (.p (.int .i64 F))), (3, .c (.p (.int .i64 (M' + 1 : Nat)))), (10, .c (.p (.tz true 4 (entP (seqE b 2 N)) none))), (11, .c (.p (.tz true 4 (entP (seqE (b + F) 3 (M' + 1))) none)))]) (h' := ⟨[], 0⟩)
  refine M.go rfl ?_
  refine M.wkO (i := 80) (v' := (cutS b).v) rfl Wk.rfl ?_
  have hb : 0 ≤ b := by omega
  have hb2 : b ≤ 1099511627776 := by omega
  refine M.use trivial (New_yes (cutS b) (cutS_ok b hb hb2) true none (seqE b 2 N) (by rw [seqE_len]; omega) (seqE_ok b 2 N hb (by omega) ⟨by omega, by omega⟩) (cut_new b N hb hb2 (by omega))) [] rfl rfl rfl (by repeat' (first | exact True.intro | refine ⟨⟨_, _, _, rfl, rfl, rfl, WkO.rfl⟩, ?_⟩ | refine HeapOK.acc rfl rfl ?_)) rfl rfl ?_
  refine M.go rfl ?_
  rw [seqE_own]
  rw [seqE_cons (b + F)]
  have hL1 := cutL_ok b N hb hb2 (by omega)
  have hL2 := cutL2_ok b F (M' + 1) hb hb2 (by omega) (by omega)
  have hok : ∀ e ∈ entQ (b + F + 1) 3 :: seqE (b + F + 1) 3 M', e.ok := by rw [← seqE_cons]; exact seqE_ok (b + F) 3 (M' + 1) (by omega) (by omega) ⟨by omega, by omega⟩
  have hl1 : (cutL b N).last = b + N := by simp [PLog.last, cutL, cutS, seqE_len]
  have hput := Put_yes (base := base) (cutL b N) hL1 (by omega) true none (entQ (b + F + 1) 3) (seqE (b + F + 1) 3 M') (by simp [seqE_len]; omega) hok (cut_put b N F M' hb hb2 (by omega) (by omega) (by omega))
  rw [cut_put_eq b N F M' (by omega)] at hput
  refine M.use rfl hput [(0, 0)] rfl rfl rfl (by repeat' (first | exact True.intro | refine ⟨⟨_, _, _, rfl, rfl, rfl, WkO.rfl⟩, ?_⟩ | refine HeapOK.acc rfl rfl ?_)) rfl rfl ?_
  refine M.go rfl ?_
  refine M.decB rfl (fun h => absurd h (by decide)) (fun _ => ?_)
  refine M.go rfl ?_
  refine M.use (by first | exact True.intro | exact rfl) (Last_spec _ hL2) [(0, 0)] rfl rfl rfl (by repeat' (first | exact True.intro | refine ⟨⟨_, _, _, rfl, rfl, rfl, WkO.rfl⟩, ?_⟩ | refine HeapOK.acc rfl rfl ?_)) rfl rfl ?_
  refine M.go rfl ?_
  have hwl : IntKind.i64.wrap ((F : Int) + ((M' + 1 : Nat) : Int)) = F + ((M' + 1 : Nat) : Int) := wr64 (by omega) (by omega)
  have hwl2 : IntKind.i64.wrap (b + ((F : Int) + ((M' + 1 : Nat) : Int))) = b + (F + ((M' + 1 : Nat) : Int)) := wr64 (by omega) (by omega)
  have hl2 := cutL2_last b F (M' + 1)
  rw [hwl, hwl2]
  refine M.decN rfl (fun h => absurd hl2 h) (fun _ => ?_)
  refine M.go rfl ?_
  refine M.use (by first | exact True.intro | exact rfl) (Base_spec _) [(0, 0)] rfl rfl rfl (by repeat' (first | exact True.intro | refine ⟨⟨_, _, _, rfl, rfl, rfl, WkO.rfl⟩, ?_⟩ | refine HeapOK.acc rfl rfl ?_)) rfl rfl ?_
  refine M.go rfl ?_
  refine M.condN rfl (fun h => absurd rfl h) (fun _ => ?_)
  refine M.go rfl ?_
  refine M.loop (XH.ren [(0, 0)] (cutT b N F (M' + 1 : Nat) (cutL2 b F (M' + 1)) hL2 hb hb2 (by omega) (by omega) (by omega) (by omega) (fun i g1 g2 => cut_term3 b F (M' + 1) i g1 g2) (fun i g1 g2 => cut_term2 b F (M' + 1) i g1 g2) _ ?_ (F + M' + 1) 1 (by omega) (by omega)) rfl (by repeat' (first | exact True.intro | refine ⟨⟨_, _, rfl, rfl, Wk.rfl⟩, ?_⟩ | refine ⟨⟨_, _, accV_ren rfl, rfl, Wk.rfl⟩, ?_⟩ | refine ⟨⟨_, _, accV_ren rfl, rfl, Wk.acc0⟩, ?_⟩ | refine ⟨⟨_, _, rfl, rfl, Wk.uncap⟩, ?_⟩ | refine ⟨⟨_, _, rfl, rfl, Wk.nil⟩, ?_⟩)) (by repeat' (first | exact True.intro | refine ⟨⟨_, _, _, rfl, rfl, rfl, WkO.rfl⟩, ?_⟩ | refine HeapOK.acc rfl rfl ?_)))
  refine M.q (M.goN 7 rfl ?_)
  refine M.wkO (i := 134) (v' := (entQ b 3).v) rfl Wk.rfl ?_
  refine M.goN 1 rfl ?_
  refine M.freezeO (i := 135) rfl rfl rfl ?_
  have hlt : (cutL2 b F (M' + 1)).last < 9223372036854775807 := by rw [hl2]; omega
  have hix : (cutL2 b F (M' + 1)).S.ix = b := rfl
  refine M.use (by first | exact True.intro | exact rfl) (Put_no (cutL2 b F (M' + 1)) hL2 hlt false (some 1) (entQ b 3) [] (by simp) (by intro e he; obtain rfl := List.mem_singleton.1 he; exact ⟨⟨by show _ ≤ b; omega, by show b ≤ _; omega⟩, ⟨by simp [entQ], by simp [entQ]⟩, ⟨by simp [entQ], by simp [entQ]⟩, ⟨by simp [entQ], by simp [entQ]⟩⟩) (by rw [PLog.putOk, hix, show (entQ b 3).ix = b from rfl]; simp)) [(0, 0)] rfl rfl rfl (by repeat' (first | exact True.intro | refine ⟨⟨_, _, _, rfl, rfl, rfl, WkO.rfl⟩, ?_⟩ | refine HeapOK.acc rfl rfl ?_)) rfl rfl ?_
  refine M.go rfl ?_
  refine M.decB rfl (fun _ => ?_) (fun h => absurd h (by decide))
  obtain ⟨y, hy⟩ : ∃ y : Int, y = (cutL2 b F (M' + 1)).last := ⟨_, rfl⟩
  have hy2 : y = b + (F + ((M' + 1 : Nat) : Int)) := hy.trans hl2
  have hw1 : IntKind.i64.wrap (y + 1) = y + 1 := wr64 (by omega) (by omega)
  have hw2 : IntKind.i64.wrap (y + 2) = y + 2 := wr64 (by omega) (by omega)
  have hlast := Last_spec (base := base) _ hL2
  rw [← hy] at hlast
  rw [← hy] at hlt
  refine M.go rfl ?_
  refine M.use (by first | exact True.intro | exact rfl) (hlast) [(0, 0)] rfl rfl rfl (by repeat' (first | exact True.intro | refine ⟨⟨_, _, _, rfl, rfl, rfl, WkO.rfl⟩, ?_⟩ | refine HeapOK.acc rfl rfl ?_)) rfl rfl ?_
  refine M.goN 2 rfl ?_
  rw [hw2]
  refine M.wkO (i := 143) (v' := (entQ (y + 2) 3).v) rfl Wk.rfl ?_
  refine M.goN 1 rfl ?_
  refine M.freezeO (i := 144) rfl rfl rfl ?_
  have hn1 : (cutL2 b F (M' + 1)).putOk [entQ (y + 2) 3] = false := by
    have g : ¬ y + 2 ≤ y + 1 := by omega
    rw [PLog.putOk, ← hy, show (entQ (y + 2) 3).ix = y + 2 from rfl, decide_eq_false g]; simp
  refine M.use (by first | exact True.intro | exact rfl) (Put_no (cutL2 b F (M' + 1)) hL2 (by rw [← hy]; exact hlt) false (some 1) (entQ (y + 2) 3) [] (by simp) (by intro e he; obtain rfl := List.mem_singleton.1 he; exact ⟨⟨by show _ ≤ y + 2; omega, by show y + 2 ≤ _; omega⟩, ⟨by simp [entQ], by simp [entQ]⟩, ⟨by simp [entQ], by simp [entQ]⟩, ⟨by simp [entQ], by simp [entQ]⟩⟩) hn1) [(0, 0)] rfl rfl rfl (by repeat' (first | exact True.intro | refine ⟨⟨_, _, _, rfl, rfl, rfl, WkO.rfl⟩, ?_⟩ | refine HeapOK.acc rfl rfl ?_)) rfl rfl ?_
  refine M.go rfl ?_
  refine M.decB rfl (fun _ => ?_) (fun h => absurd h (by decide))
  refine M.go rfl ?_
  refine M.use (by first | exact True.intro | exact rfl) (hlast) [(0, 0)] rfl rfl rfl (by repeat' (first | exact True.intro | refine ⟨⟨_, _, _, rfl, rfl, rfl, WkO.rfl⟩, ?_⟩ | refine HeapOK.acc rfl rfl ?_)) rfl rfl ?_
  refine M.goN 2 rfl ?_
  rw [hw1]
  refine M.wkO (i := 153) (v' := (entQ (y + 1) 2).v) rfl Wk.rfl ?_
  refine M.goN 1 rfl ?_
  refine M.freezeO (i := 154) rfl rfl rfl ?_
  have hn2 : (cutL2 b F (M' + 1)).putOk [entQ (y + 1) 2] = false := by
    have g : (cutL2 b F (M' + 1)).term (y + 1 - 1) = (3, true) := by
      rw [show y + 1 - 1 = b + (F + ((M' + 1 : Nat) : Int)) by omega]; exact cut_term3 b F (M' + 1) _ (by omega) (by omega)
    rw [PLog.putOk, show (entQ (y + 1) 2).ix = y + 1 from rfl, g, mayF, entB, show (entQ (y + 1) 2).tm = 2 from rfl, decide_eq_true (show (2 : Int) < 3 by decide)]; simp
  refine M.use (by first | exact True.intro | exact rfl) (Put_no (cutL2 b F (M' + 1)) hL2 (by rw [← hy]; exact hlt) false (some 1) (entQ (y + 1) 2) [] (by simp) (by intro e he; obtain rfl := List.mem_singleton.1 he; exact ⟨⟨by show _ ≤ y + 1; omega, by show y + 1 ≤ _; omega⟩, ⟨by simp [entQ], by simp [entQ]⟩, ⟨by simp [entQ], by simp [entQ]⟩, ⟨by simp [entQ], by simp [entQ]⟩⟩) hn2) [(0, 0)] rfl rfl rfl (by repeat' (first | exact True.intro | refine ⟨⟨_, _, _, rfl, rfl, rfl, WkO.rfl⟩, ?_⟩ | refine HeapOK.acc rfl rfl ?_)) rfl rfl ?_
  refine M.go rfl ?_
  exact M.ret (M.go rfl (M.done (finQ.ret [] rfl rfl rfl (by first | exact Wk.rfl | exact Wk.uncap | exact Wk.nil | exact Wk.b1 rfl | exact Wk.t2 Wk.rfl (Wk.b1 rfl)) (by repeat' (first | exact True.intro | refine ⟨⟨_, _, _, rfl, rfl, rfl, WkO.rfl⟩, ?_⟩ | refine HeapOK.acc rfl rfl ?_)))))
theorem logCut_calls (w : World) (b n f m : Int) : Calls Try.prog 6 #[.int .i64 b, .int .i64 n, .int .i64 f, .int .i64 m] w fun e w' => e = .returned (.bool true) ∧ Below w.heap.size w w' :=
  CallS.law (args' := [.int .i64 b, .int .i64 n, .int .i64 f, .int .i64 m]) (LogCut_spec b n f m) ⟨rfl, rfl, rfl, rfl, trivial⟩
#print axioms logCut_calls
end Go.Proofs.Yteegdhfekemhmaa
