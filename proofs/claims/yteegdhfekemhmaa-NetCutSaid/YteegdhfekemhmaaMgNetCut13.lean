/- Texts of this claim, several in one: SN2, SN3, SN5. -/
import Derived.Test.YteegdhfekemhmaaMgNetCut12
namespace Go.Proofs.Yteegdhfekemhmaa
open Go.RowKit Sim Go Sym
set_option maxRecDepth 100000
set_option linter.unusedVariables false
set_option linter.unusedSimpArgs false
variable {base : Nat}
def ct0 : PC := .tz true 1 [] none
noncomputable def lNNew : {F : LF // lowerF Try.prog 71 = some F} := ⟨_, rfl⟩
theorem nnew_spec : CallS Try.prog base 71 [] ⟨[], 0⟩ (.c (.ptr 0 0)) (hN0 ct0) := by
  refine CallS.of noNG lNNew.2 rfl (M.start (M.go rfl ?_))
  exact M.ret (M.go rfl (M.done (finQ.ret [(0, 0)] rfl rfl rfl (by first | exact Wk.rfl | exact Wk.uncap | exact Wk.nil | exact Wk.b1 rfl | exact Wk.t2 Wk.rfl (Wk.b1 rfl)) ⟨⟨_, _, _, rfl, rfl, rfl, WkO.row ⟨Wk.nil, Wk.nil, trivial⟩⟩, trivial⟩)))
noncomputable def lNLen : {F : LF // lowerF Try.prog 73 = some F} := ⟨_, rfl⟩
theorem nlen_spec (l : List PC) (p : Nat) (ct : PC) : CallS Try.prog base 73 [.c (.ptr 0 0)] (hN 1 l p ct) (.c (.p (.int .i64 l.length))) (hN 1 l p ct) := by
  refine CallS.of noNG lNLen.2 rfl (M.start (M.go rfl ?_))
  exact M.ret (M.go rfl (M.done (finQ.ret [(0, 0), (1, 1)] rfl rfl rfl (by first | exact Wk.rfl | exact Wk.uncap | exact Wk.nil | exact Wk.b1 rfl | exact Wk.t2 Wk.rfl (Wk.b1 rfl)) (by repeat' (first | exact True.intro | refine ⟨⟨_, _, _, rfl, rfl, rfl, WkO.rfl⟩, ?_⟩ | refine HeapOK.acc rfl rfl ?_ | refine HeapOK.es rfl rfl ?_)))))
theorem nlen0_spec (ct : PC) : CallS Try.prog base 73 [.c (.ptr 0 0)] (hN0 ct) (.c (.p (.int .i64 0))) (hN0 ct) := by
  refine CallS.of noNG lNLen.2 rfl (M.start (M.go rfl ?_))
  exact M.ret (M.go rfl (M.done (finQ.ret [(0, 0)] rfl rfl rfl (by first | exact Wk.rfl | exact Wk.uncap | exact Wk.nil | exact Wk.b1 rfl | exact Wk.t2 Wk.rfl (Wk.b1 rfl)) (by repeat' (first | exact True.intro | refine ⟨⟨_, _, _, rfl, rfl, rfl, WkO.rfl⟩, ?_⟩ | refine HeapOK.acc rfl rfl ?_ | refine HeapOK.es rfl rfl ?_)))))
noncomputable def lNIs : {F : LF // lowerF Try.prog 117 = some F} := ⟨_, rfl⟩
theorem nis_yes (l : List PC) (p : Nat) (ct : PC) (i : Nat) (hi : i < l.length) : CallS Try.prog base 117 [.c (.ptr 0 0), .c (.p (.int .i64 i))] (hN 1 l p ct) (.c (.p (.bool true))) (hN 1 l p ct) := by
  refine CallS.of noNG lNIs.2 rfl (M.start (M.go rfl ?_))
  refine M.dec rfl (fun _ => ?_) (fun hn => absurd (by omega) hn)
  refine M.go rfl ?_
  refine M.use (by first | exact True.intro | exact rfl) (nlen_spec l p ct) [(0, 0), (1, 1)] rfl rfl rfl (by repeat' (first | exact True.intro | refine ⟨⟨_, _, _, rfl, rfl, rfl, WkO.rfl⟩, ?_⟩ | refine HeapOK.acc rfl rfl ?_ | refine HeapOK.es rfl rfl ?_)) rfl rfl ?_
  refine M.go rfl ?_
  refine M.decC (s := 4) rfl (fun _ => ?_) (fun hn => absurd hn (by simp; omega))
  exact M.ret (M.go rfl (M.done (finQ.ret [(0, 0), (1, 1)] rfl rfl rfl (by first | exact Wk.rfl | exact Wk.uncap | exact Wk.nil | exact Wk.b1 rfl | exact Wk.t2 Wk.rfl (Wk.b1 rfl)) (by repeat' (first | exact True.intro | refine ⟨⟨_, _, _, rfl, rfl, rfl, WkO.rfl⟩, ?_⟩ | refine HeapOK.acc rfl rfl ?_ | refine HeapOK.es rfl rfl ?_)))))
theorem nis0_spec (ct : PC) : CallS Try.prog base 117 [.c (.ptr 0 0), .c (.p (.int .i64 0))] (hN0 ct) (.c (.p (.bool false))) (hN0 ct) := by
  refine CallS.of noNG lNIs.2 rfl (M.start (M.go rfl ?_))
  refine M.dec rfl (fun _ => ?_) (fun hn => absurd (by omega) hn)
  refine M.go rfl ?_
  refine M.use (by first | exact True.intro | exact rfl) (nlen0_spec ct) [(0, 0)] rfl rfl rfl (by repeat' (first | exact True.intro | refine ⟨⟨_, _, _, rfl, rfl, rfl, WkO.rfl⟩, ?_⟩ | refine HeapOK.acc rfl rfl ?_ | refine HeapOK.es rfl rfl ?_)) rfl rfl ?_
  refine M.go rfl ?_
  refine M.decC (s := 4) rfl (fun hn => absurd hn (by simp)) (fun _ => ?_)
  exact M.ret (M.go rfl (M.done (finQ.ret [(0, 0)] rfl rfl rfl (by first | exact Wk.rfl | exact Wk.uncap | exact Wk.nil | exact Wk.b1 rfl | exact Wk.t2 Wk.rfl (Wk.b1 rfl)) (by repeat' (first | exact True.intro | refine ⟨⟨_, _, _, rfl, rfl, rfl, WkO.rfl⟩, ?_⟩ | refine HeapOK.acc rfl rfl ?_ | refine HeapOK.es rfl rfl ?_)))))
noncomputable def lNDrop : {F : LF // lowerF Try.prog 80 = some F} := ⟨_, rfl⟩
theorem ndrop_spec (l : List PC) (p : Nat) (ct : PC) (i : Nat) (hi : i < l.length) (hl : l.length ≤ 1000) : CallS Try.prog base 80 [.c (.ptr 0 0), .c (.p (.int .i64 i))] (hN 1 l p ct) (.c (.p (.bool true))) (hN 1 (l.eraseIdx i) (p + 1) ct) := by
  have he : (l.eraseIdx i).length = l.length - 1 := by rw [List.length_eraseIdx, if_pos hi]
  refine CallS.of noNG lNDrop.2 rfl (M.start (M.go rfl ?_))
  refine M.use trivial (nis_yes l p ct i hi) [(0, 0), (1, 1)] rfl rfl rfl (by repeat' (first | exact True.intro | refine ⟨⟨_, _, _, rfl, rfl, rfl, WkO.rfl⟩, ?_⟩ | refine HeapOK.acc rfl rfl ?_ | refine HeapOK.es rfl rfl ?_)) rfl rfl ?_
  refine M.go rfl ?_
  rw [wr64 (n := (i : Int) + 1) (by omega) (by omega)]
  refine M.use trivial (del_spec l (List.replicate p nlP) i hi (by omega)) [(0, 1)] rfl rfl rfl (by repeat' (first | exact True.intro | refine ⟨⟨_, _, _, rfl, rfl, rfl, WkO.rfl⟩, ?_⟩ | refine HeapOK.acc rfl rfl ?_ | refine HeapOK.es rfl rfl ?_)) rfl rfl ?_
  refine M.go rfl ?_
  simp only [hN, he, List.replicate_succ]
  exact M.ret (M.go rfl (M.done (finQ.ret [(0, 0), (1, 1)] rfl rfl rfl (by first | exact Wk.rfl | exact Wk.uncap | exact Wk.nil | exact Wk.b1 rfl | exact Wk.t2 Wk.rfl (Wk.b1 rfl)) (by repeat' (first | exact True.intro | refine ⟨⟨_, _, _, rfl, rfl, rfl, WkO.rfl⟩, ?_⟩ | refine HeapOK.acc rfl rfl ?_ | refine HeapOK.es rfl rfl ?_)))))
noncomputable def lNTw : {F : LF // lowerF Try.prog 75 = some F} := ⟨_, rfl⟩
theorem ntwice_spec (l : List PC) (p : Nat) (ct : PC) (i : Nat) (x : List Int) (hi : l[i]? = some (pkP x)) (hx : x.length ≤ 1000000) (hl : l.length ≤ 1000) : CallS Try.prog base 75 [.c (.ptr 0 0), .c (.p (.int .i64 i))] (hN 1 l p ct) (.c (.p (.bool true))) (hN (pushA p) (pushL l (pkP x)) (pushR l p) ct) := by
  have hi2 : i < l.length := lt_of_get hi
  have hu : (l ++ List.replicate p nlP)[i]? = some (pkP x) := by rw [List.getElem?_append_left hi2]; exact hi
  refine CallS.of noNG lNTw.2 rfl (M.start (M.go rfl ?_))
  refine M.use trivial (nis_yes l p ct i hi2) [(0, 0), (1, 1)] rfl rfl rfl (by repeat' (first | exact True.intro | refine ⟨⟨_, _, _, rfl, rfl, rfl, WkO.rfl⟩, ?_⟩ | refine HeapOK.acc rfl rfl ?_ | refine HeapOK.es rfl rfl ?_)) rfl rfl ?_
  refine M.go rfl ?_
  refine M.op trivial (SOp.iaOn rfl rfl hi2) ?_
  refine M.op trivial (SOp.ld1O rfl rfl hu rfl rfl rfl) ?_
  refine M.go rfl ?_
  refine M.use0 trivial (bcl_spec false (u8P x) none (by rw [u8P_len]; omega)) rfl rfl rfl ?_
  refine M.go rfl ?_
  cases p with
  | zero =>
    refine M.use trivial (push_spec l 0 x ct hl) [(0, 0), (1, 1)] rfl rfl rfl (by repeat' (first | exact True.intro | refine ⟨⟨_, _, _, rfl, rfl, rfl, WkO.rfl⟩, ?_⟩ | refine HeapOK.acc rfl rfl ?_ | refine HeapOK.es rfl rfl ?_)) rfl rfl ?_
    refine M.go rfl ?_
    exact M.ret (M.go rfl (M.done (finQ.ret [(0, 0), (1, 1), (2, 2)] rfl rfl rfl (by first | exact Wk.rfl | exact Wk.uncap | exact Wk.nil | exact Wk.b1 rfl | exact Wk.t2 Wk.rfl (Wk.b1 rfl)) (by repeat' (first | exact True.intro | refine ⟨⟨_, _, _, rfl, rfl, rfl, WkO.rfl⟩, ?_⟩ | refine HeapOK.acc rfl rfl ?_ | refine HeapOK.es rfl rfl ?_)))))
  | succ p =>
    refine M.use trivial (push_spec l (p + 1) x ct hl) [(0, 0), (1, 1)] rfl rfl rfl (by repeat' (first | exact True.intro | refine ⟨⟨_, _, _, rfl, rfl, rfl, WkO.rfl⟩, ?_⟩ | refine HeapOK.acc rfl rfl ?_ | refine HeapOK.es rfl rfl ?_)) rfl rfl ?_
    refine M.go rfl ?_
    exact M.ret (M.go rfl (M.done (finQ.ret [(0, 0), (1, 1)] rfl rfl rfl (by first | exact Wk.rfl | exact Wk.uncap | exact Wk.nil | exact Wk.b1 rfl | exact Wk.t2 Wk.rfl (Wk.b1 rfl)) (by repeat' (first | exact True.intro | refine ⟨⟨_, _, _, rfl, rfl, rfl, WkO.rfl⟩, ?_⟩ | refine HeapOK.acc rfl rfl ?_ | refine HeapOK.es rfl rfl ?_)))))
noncomputable def lNHeal : {F : LF // lowerF Try.prog 78 = some F} := ⟨_, rfl⟩
theorem nheal_spec (l : List PC) (p : Nat) (ct : PC) : CallS Try.prog base 78 [.c (.ptr 0 0)] (hN 1 l p ct) (.tup []) (hN 1 l p ct0) := by
  refine CallS.of noNG lNHeal.2 rfl (M.start (M.go rfl ?_))
  exact M.done (finQ.normal [(0, 0), (1, 1)] rfl rfl rfl Wk.rfl ⟨⟨_, _, _, rfl, rfl, rfl, WkO.rfl⟩, ⟨_, _, _, rfl, rfl, rfl, WkO.row ⟨Wk.rfl, Wk.nil, trivial⟩⟩, trivial⟩)
noncomputable def lNSend : {F : LF // lowerF Try.prog 72 = some F} := ⟨_, rfl⟩
def PMsg.pk (m : PMsg) : List Int := sealB (msgB m.p)
theorem nsend0_spec (m : PMsg) (hm : m.good) (hB : Bytes (msgB m.p)) (hl : (msgB m.p).length ≤ 65536) (ct : PC) : CallS Try.prog base 72 [.c (.ptr 0 0), m.v] (hN0 ct) (.tup []) (hN 1 [pkP m.pk] 0 ct) := by
  have hsl : (u8P (sealB (msgB m.p))).length = 8 + (msgB m.p).length := by rw [u8P_len]; exact seal_len hl
  refine CallS.of noNG lNSend.2 rfl (M.start (M.go rfl ?_))
  refine M.use0 trivial (Msg_spec m hm) rfl rfl rfl ?_
  refine M.go rfl ?_
  refine M.use0 trivial (sealS_yes true none (msgB m.p) hB hl) rfl rfl rfl ?_
  refine M.go rfl ?_
  refine M.cond rfl (fun _ => ?_) (fun hn => absurd (by omega) hn)
  refine M.go rfl ?_
  refine M.use trivial (push0_spec m.pk ct) [(0, 0)] rfl rfl rfl (by repeat' (first | exact True.intro | refine ⟨⟨_, _, _, rfl, rfl, rfl, WkO.rfl⟩, ?_⟩ | refine HeapOK.acc rfl rfl ?_ | refine HeapOK.es rfl rfl ?_)) rfl rfl ?_
  exact M.go rfl (M.done (finQ.normal [(0, 0), (1, 2)] rfl rfl rfl Wk.rfl (by repeat' (first | exact True.intro | refine ⟨⟨_, _, _, rfl, rfl, rfl, WkO.rfl⟩, ?_⟩ | refine HeapOK.acc rfl rfl ?_ | refine HeapOK.es rfl rfl ?_))))
theorem nsend_spec (m : PMsg) (hm : m.good) (hB : Bytes (msgB m.p)) (hl : (msgB m.p).length ≤ 65536) (l : List PC) (p : Nat) (ct : PC) (hl2 : l.length ≤ 1000) : CallS Try.prog base 72 [.c (.ptr 0 0), m.v] (hN 1 l p ct) (.tup []) (hN (pushA p) (pushL l (pkP m.pk)) (pushR l p) ct) := by
  have hsl : (u8P (sealB (msgB m.p))).length = 8 + (msgB m.p).length := by rw [u8P_len]; exact seal_len hl
  refine CallS.of noNG lNSend.2 rfl (M.start (M.go rfl ?_))
  refine M.use0 trivial (Msg_spec m hm) rfl rfl rfl ?_
  refine M.go rfl ?_
  refine M.use0 trivial (sealS_yes true none (msgB m.p) hB hl) rfl rfl rfl ?_
  refine M.go rfl ?_
  refine M.cond rfl (fun _ => ?_) (fun hn => absurd (by omega) hn)
  refine M.go rfl ?_
  cases p with
  | zero =>
    refine M.use trivial (push_spec l 0 m.pk ct hl2) [(0, 0), (1, 1)] rfl rfl rfl (by repeat' (first | exact True.intro | refine ⟨⟨_, _, _, rfl, rfl, rfl, WkO.rfl⟩, ?_⟩ | refine HeapOK.acc rfl rfl ?_ | refine HeapOK.es rfl rfl ?_)) rfl rfl ?_
    exact M.go rfl (M.done (finQ.normal [(0, 0), (1, 1), (2, 3)] rfl rfl rfl Wk.rfl (by repeat' (first | exact True.intro | refine ⟨⟨_, _, _, rfl, rfl, rfl, WkO.rfl⟩, ?_⟩ | refine HeapOK.acc rfl rfl ?_ | refine HeapOK.es rfl rfl ?_))))
  | succ p =>
    refine M.use trivial (push_spec l (p + 1) m.pk ct hl2) [(0, 0), (1, 1)] rfl rfl rfl (by repeat' (first | exact True.intro | refine ⟨⟨_, _, _, rfl, rfl, rfl, WkO.rfl⟩, ?_⟩ | refine HeapOK.acc rfl rfl ?_ | refine HeapOK.es rfl rfl ?_)) rfl rfl ?_
    exact M.go rfl (M.done (finQ.normal [(0, 0), (1, 1)] rfl rfl rfl Wk.rfl (by repeat' (first | exact True.intro | refine ⟨⟨_, _, _, rfl, rfl, rfl, WkO.rfl⟩, ?_⟩ | refine HeapOK.acc rfl rfl ?_ | refine HeapOK.es rfl rfl ?_))))
noncomputable def lNPeek : {F : LF // lowerF Try.prog 74 = some F} := ⟨_, rfl⟩
def RS.ofB (xs : List Int) : PMsg × Int := RS.msgR ⟨false, xs, false⟩
attribute [local irreducible] RS.msgR
theorem npeek_spec (l : List PC) (p : Nat) (ct : PC) (i : Nat) (x : List Int) (hi : l[i]? = some (pkP (sealB x))) (hB : Bytes x) (hx : x.length ≤ 65536) : CallS Try.prog base 74 [.c (.ptr 0 0), .c (.p (.int .i64 i))] (hN 1 l p ct) (.tup [(RS.ofB x).1.v, .c (.p (.bs (decide ((RS.ofB x).2 = 0))))]) (hN 1 l p ct) := by
  have hi2 : i < l.length := lt_of_get hi
  have hu : (l ++ List.replicate p nlP)[i]? = some (pkP (sealB x)) := by rw [List.getElem?_append_left hi2]; exact hi
  refine CallS.of noNG lNPeek.2 rfl (M.start (M.go rfl ?_))
  refine M.use trivial (nis_yes l p ct i hi2) [(0, 0), (1, 1)] rfl rfl rfl (by repeat' (first | exact True.intro | refine ⟨⟨_, _, _, rfl, rfl, rfl, WkO.rfl⟩, ?_⟩ | refine HeapOK.acc rfl rfl ?_ | refine HeapOK.es rfl rfl ?_)) rfl rfl ?_
  refine M.go rfl ?_
  refine M.op trivial (SOp.iaOn rfl rfl hi2) ?_
  refine M.op trivial (SOp.ld1O rfl rfl hu rfl rfl rfl) ?_
  refine M.go rfl ?_
  have O := open_spec (base := base) false none (sealB x) (seal_bytes hB) (by rw [seal_len hx]; omega)
  rw [open_seal hx] at O
  refine M.use0 trivial O rfl rfl rfl ?_
  refine M.go rfl ?_
  refine M.decC (s := 27) rfl (fun hn => by cases hn) (fun _ => ?_)
  refine M.go rfl ?_
  refine M.use0 trivial (ReadMsg_spec false x none (by omega) hB) rfl rfl rfl ?_
  refine M.go rfl ?_
  exact M.ret (M.go rfl (M.done (finQ.ret [(0, 0), (1, 1)] rfl rfl rfl (Wk.of rfl) (by repeat' (first | exact True.intro | refine ⟨⟨_, _, _, rfl, rfl, rfl, WkO.rfl⟩, ?_⟩ | refine HeapOK.acc rfl rfl ?_ | refine HeapOK.es rfl rfl ?_)))))
theorem npeek0_spec (ct : PC) : CallS Try.prog base 74 [.c (.ptr 0 0), .c (.p (.int .i64 0))] (hN0 ct) (.tup [PMsg.zero.v, .c (.p (.bool false))]) (hN0 ct) := by
  refine CallS.of noNG lNPeek.2 rfl (M.start (M.go rfl ?_))
  refine M.use trivial (nis0_spec ct) [(0, 0)] rfl rfl rfl (by repeat' (first | exact True.intro | refine ⟨⟨_, _, _, rfl, rfl, rfl, WkO.rfl⟩, ?_⟩ | refine HeapOK.acc rfl rfl ?_ | refine HeapOK.es rfl rfl ?_)) rfl rfl ?_
  refine M.go rfl ?_
  exact M.ret (M.go rfl (M.done (finQ.ret [(0, 0)] rfl rfl rfl (Wk.of rfl) (by repeat' (first | exact True.intro | refine ⟨⟨_, _, _, rfl, rfl, rfl, WkO.rfl⟩, ?_⟩ | refine HeapOK.acc rfl rfl ?_ | refine HeapOK.es rfl rfl ?_)))))
noncomputable def lCtI : {F : LF // lowerF Try.prog 128 = some F} := ⟨_, rfl⟩
theorem ctidx0_spec (a b : Int) : CallS Try.prog base 128 [.c (.p ct0), .agg [.p (.int .i64 a), .p (.int .i64 b)]] ⟨[], 0⟩ (.c (.p (.int .i64 (-1)))) ⟨[], 0⟩ := by
  refine CallS.of noNG lCtI.2 rfl (M.start (M.go rfl ?_))
  refine M.loop (M.round (M.go rfl ?_))
  refine M.cond rfl (fun hn => absurd hn (by simp)) (fun _ => ?_)
  refine M.exit (M.go rfl (M.done (M.q (M.go rfl ?_))))
  exact M.ret (M.go rfl (M.done (finQ.ret [] rfl rfl rfl (by first | exact Wk.rfl | exact Wk.uncap | exact Wk.nil | exact Wk.b1 rfl | exact Wk.t2 Wk.rfl (Wk.b1 rfl)) (by repeat' (first | exact True.intro | refine ⟨⟨_, _, _, rfl, rfl, rfl, WkO.rfl⟩, ?_⟩ | refine HeapOK.acc rfl rfl ?_ | refine HeapOK.es rfl rfl ?_)))))
noncomputable def lCtC : {F : LF // lowerF Try.prog 119 = some F} := ⟨_, rfl⟩
theorem ctin0_spec (a b : Int) : CallS Try.prog base 119 [.c (.p ct0), .agg [.p (.int .i64 a), .p (.int .i64 b)]] ⟨[], 0⟩ (.c (.p (.bool false))) ⟨[], 0⟩ := by
  refine CallS.of noNG lCtC.2 rfl (M.start (M.go rfl ?_))
  refine M.use0 trivial (ctidx0_spec a b) rfl rfl rfl ?_
  refine M.go rfl ?_
  refine M.decC (s := 4) rfl (fun hn => absurd hn (by decide)) (fun _ => ?_)
  exact M.ret (M.go rfl (M.done (finQ.ret [] rfl rfl rfl (by first | exact Wk.rfl | exact Wk.uncap | exact Wk.nil | exact Wk.b1 rfl | exact Wk.t2 Wk.rfl (Wk.b1 rfl)) (by repeat' (first | exact True.intro | refine ⟨⟨_, _, _, rfl, rfl, rfl, WkO.rfl⟩, ?_⟩ | refine HeapOK.acc rfl rfl ?_ | refine HeapOK.es rfl rfl ?_)))))
noncomputable def lNTk : {F : LF // lowerF Try.prog 76 = some F} := ⟨_, rfl⟩
theorem ntake_spec (l : List PC) (p : Nat) (i : Nat) (x : List Int) (hi : l[i]? = some (pkP (sealB x))) (hB : Bytes x) (hx : x.length ≤ 65536) (hl : l.length ≤ 1000) (hok : (RS.ofB x).2 = 0) : CallS Try.prog base 76 [.c (.ptr 0 0), .c (.p (.int .i64 i))] (hN 1 l p ct0) (.tup [(RS.ofB x).1.v, .c (.p (.bool true))]) (hN 1 (l.eraseIdx i) (p + 1) ct0) := by
  have hi2 : i < l.length := lt_of_get hi
  refine CallS.of noNG lNTk.2 rfl (M.start (M.go rfl ?_))
  refine M.use trivial (npeek_spec l p ct0 i x hi hB hx) [(0, 0), (1, 1)] rfl rfl rfl (by repeat' (first | exact True.intro | refine ⟨⟨_, _, _, rfl, rfl, rfl, WkO.rfl⟩, ?_⟩ | refine HeapOK.acc rfl rfl ?_ | refine HeapOK.es rfl rfl ?_)) rfl rfl ?_
  refine M.go rfl ?_
  refine M.decC (s := 7) rfl (fun _ => ?_) (fun hn => absurd hn (by simpa using hok))
  refine M.go rfl ?_
  refine M.regD (MD.go rfl ?_)
  refine MD.use trivial (ndrop_spec l p ct0 i hi2 hl) [(0, 0), (1, 1)] rfl rfl rfl (by repeat' (first | exact True.intro | refine ⟨⟨_, _, _, rfl, rfl, rfl, WkO.rfl⟩, ?_⟩ | refine HeapOK.acc rfl rfl ?_ | refine HeapOK.es rfl rfl ?_)) rfl rfl ?_
  refine MD.go rfl ?_
  refine MD.use0 (by first | exact True.intro | exact rfl) (ctin0_spec (RS.ofB x).1.fr (RS.ofB x).1.to) rfl rfl rfl ?_
  refine MD.go rfl ?_
  refine MD.nil mixed (Fnl.nodup rfl) (M.go rfl ?_)
  refine M.go rfl ?_
  exact M.ret (M.go rfl (M.done (finQ.ret [(0, 0), (1, 1)] rfl rfl rfl (Wk.of rfl) (by repeat' (first | exact True.intro | refine ⟨⟨_, _, _, rfl, rfl, rfl, WkO.rfl⟩, ?_⟩ | refine HeapOK.acc rfl rfl ?_ | refine HeapOK.es rfl rfl ?_)))))
end Go.Proofs.Yteegdhfekemhmaa

namespace Go.Proofs.Yteegdhfekemhmaa
open Go.RowKit Sim Go Sym
set_option maxRecDepth 100000
set_option linter.unusedVariables false
set_option linter.unusedSimpArgs false
variable {base : Nat}
def nowM (fr to t : Int) : PMsg := ⟨9, fr, to, t, 0, 0, 0, true, [], false, 0, true, [], true, [], 0, 0, 0⟩
theorem nowM_raw {fr to t : Int} (h1 : InI64 fr) (h2 : InI64 to) (h3 : InI64 t) : (nowM fr to t).raw := by
  have z : InI64 0 := ⟨by omega, by omega⟩
  refine ⟨fun n hn => ?_, ⟨by simp [nowM], fun e he => by simp [nowM] at he⟩, z, ⟨by simp [nowM], fun e he => by simp [nowM] at he⟩, fun e he => by simp [nowM] at he, z, z, z⟩
  simp only [nowM, PMsg.hd, List.mem_cons, List.not_mem_nil, or_false] at hn
  rcases hn with rfl | rfl | rfl | rfl | rfl | rfl | rfl <;> first | exact ⟨by omega, by omega⟩ | assumption
theorem nowM_cut (fr to t : Int) : (nowM fr to t).cut.p = (nowM fr to t).p := by simp [nowM, PMsg.cut, PMsg.p, PMsg.hd]
structure Snd (m : PMsg) : Prop where
  good : m.good
  bytes : Bytes (msgB m.p)
  len : (msgB m.p).length ≤ 65536
  ok : (RS.ofB (msgB m.p)).2 = 0
  p : (RS.ofB (msgB m.p)).1.p = m.p
theorem nowM_snd {fr to t : Int} (h1 : InI64 fr) (h2 : InI64 to) (h3 : InI64 t) : Snd (nowM fr to t) := by
  have hr := nowM_raw h1 h2 h3
  have hg : (nowM fr to t).good := by
    have z : InI64 0 := ⟨by omega, by omega⟩
    exact ⟨hr.hd, ⟨by simp [nowM], fun e he => by simp [nowM] at he⟩, z, ⟨by simp [nowM], fun e he => by simp [nowM] at he⟩, ⟨by simp [nowM], fun e he => by simp [nowM] at he⟩, z, z, z⟩
  have hl := msgB_len hr
  rw [nowM_cut] at hl
  have hB := msgB_bytes hg
  obtain ⟨g1, g2⟩ := msg_read hg.p
  obtain ⟨k, g3, g4⟩ := msgR_yes (z := false) (by omega) hB g1
  exact ⟨hg, hB, by omega, by rw [RS.ofB, g3], by rw [RS.ofB, g3, g4, g2]⟩
theorem PMsg.p_tm {a b : PMsg} (h : a.p = b.p) : a.tm = b.tm ∧ a.fr = b.fr ∧ a.to = b.to := by
  simp only [PMsg.p, MsgP.mk.injEq, PMsg.hd, List.cons.injEq] at h
  exact ⟨h.1.2.2.2.1, h.1.2.1, h.1.2.2.1⟩
def pkt (t : Nat) : PC := pkP (nowM 1 2 t).pk
def lst (i : Nat) : List PC := (List.range i).map fun j => pkt (j + 1)
theorem lst_len (i : Nat) : (lst i).length = i := by simp [lst]
theorem lst_succ (i : Nat) : lst (i + 1) = lst i ++ [pkt (i + 1)] := by simp [lst, List.range_succ]
def LN (i : Nat) : List PC := (lst i).drop (i - 500)
def PN (i : Nat) : Nat := if i ≤ 500 then 0 else 1
theorem LN_len (i : Nat) : (LN i).length = min i 500 := by simp [LN, lst_len]; omega
theorem LN_push (i : Nat) : pushL (LN i) (pkt (i + 1)) = LN (i + 1) := by
  have h := LN_len i
  have hll := lst_len i
  unfold pushL
  split
  · have h5 : 500 ≤ i := by omega
    rw [List.eraseIdx_zero]
    show (LN i ++ [pkt (i + 1)]).tail = LN (i + 1)
    rw [LN, LN, lst_succ, ← List.drop_append_of_le_length (by omega), List.tail_drop, show i + 1 - 500 = i - 500 + 1 by omega]
  · have h5 : i < 500 := by omega
    rw [LN, LN, lst_succ, show i - 500 = 0 by omega, show i + 1 - 500 = 0 by omega]; rfl
theorem PN_push (i : Nat) : pushR (LN i) (PN i) = PN (i + 1) := by
  have h := LN_len i
  unfold pushR PN
  rw [h]
  split <;> split <;> split <;> omega
theorem LN_get {i : Nat} (h : 1 ≤ i) : (LN i)[0]? = some (pkt (i - 500 + 1)) := by
  simp only [LN, List.getElem?_drop, lst, List.getElem?_map, Nat.add_zero]
  rw [List.getElem?_range (by omega)]; rfl
noncomputable def lMany : {F : LF // lowerF Try.prog 15 = some F} := ⟨_, rfl⟩
theorem many_loop (N : Nat) (hn7 : N ≤ 700) (Q : QX) (hq : 1 ≤ N → Q (.exit 0) [(0, .c (.p (.int .i64 N))), (4, .c (.ptr 0 0))] (hN 1 (LN N) (PN N) ct0)) :
    ∀ (rem i : Nat), i + 1 + rem = N → XH Try.prog base lMany.1.n 0 (lMany.1.c.lp 0) [(0, .c (.p (.int .i64 N))), (4, .c (.ptr 0 0)), (5, .c (.p (.int .i64 (i + 1 : Nat))))] (hN 1 (LN (i + 1)) (PN (i + 1)) ct0) Q := by
  intro rem
  induction rem with
  | zero =>
    intro i hi
    have hq' := hq (by omega)
    rw [← hi] at hq' ⊢
    refine M.round (M.go rfl ?_)
    refine M.cond rfl (fun hc => absurd hc (by omega)) (fun _ => ?_)
    refine M.ren [(0, 0), (1, 1)] ?_ trivial rfl (by repeat' (first | exact True.intro | refine ⟨⟨_, _, rfl, rfl, Wk.rfl⟩, ?_⟩ | refine ⟨⟨_, _, accV_ren rfl, rfl, Wk.rfl⟩, ?_⟩ | refine ⟨⟨_, _, accV_ren rfl, rfl, Wk.acc0⟩, ?_⟩ | refine ⟨⟨_, _, rfl, rfl, Wk.uncap⟩, ?_⟩ | refine ⟨⟨_, _, rfl, rfl, Wk.nil⟩, ?_⟩)) (by repeat' (first | exact True.intro | refine ⟨⟨_, _, _, rfl, rfl, rfl, WkO.rfl⟩, ?_⟩ | refine HeapOK.acc rfl rfl ?_ | refine HeapOK.es rfl rfl ?_)) (e' := [(0, .c (.p (.int .i64 (i + 1 + 0 : Nat)))), (4, .c (.ptr 0 0))]) (h' := hN 1 (LN (i + 1)) (PN (i + 1)) ct0)
    exact M.exit (M.go rfl (M.done hq'))
  | succ rem ih =>
    intro i hi
    have ih' := ih (i + 1) (by omega)
    have hs := nowM_snd (fr := 1) (to := 2) (t := ((i + 1 + 1 : Nat) : Int)) ⟨by omega, by omega⟩ ⟨by omega, by omega⟩ ⟨by omega, by omega⟩
    have S := nsend_spec (base := base) (nowM 1 2 ((i + 1 + 1 : Nat) : Int)) hs.good hs.bytes hs.len (LN (i + 1)) (PN (i + 1)) ct0 (by rw [LN_len]; omega)
    rw [show pushL (LN (i + 1)) (pkP (nowM 1 2 ((i + 1 + 1 : Nat) : Int)).pk) = LN (i + 1 + 1) from LN_push (i + 1), PN_push] at S
    have hw : IntKind.i64.wrap (((i + 1 : Nat) : Int) + 1) = ((i + 1 + 1 : Nat) : Int) := by rw [wr64 (by omega) (by omega)]; omega
    refine M.round (M.go rfl ?_)
    refine M.cond rfl (fun _ => ?_) (fun hc => absurd (by omega) hc)
    refine M.go rfl ?_
    rw [hw]
    refine M.wkO (i := 26) (v' := (nowM 1 2 ((i + 1 + 1 : Nat) : Int)).v) rfl (Wk.of rfl) ?_
    by_cases h5 : i + 1 ≤ 500
    · have hp : PN (i + 1) = 0 := if_pos h5
      rw [hp] at S ⊢
      refine M.use trivial S [(0, 0), (1, 1)] rfl rfl rfl (by repeat' (first | exact True.intro | refine ⟨⟨_, _, _, rfl, rfl, rfl, WkO.rfl⟩, ?_⟩ | refine HeapOK.acc rfl rfl ?_ | refine HeapOK.es rfl rfl ?_)) rfl rfl ?_
      refine M.go rfl ?_
      rw [hw]
      exact M.again (XH.ren [(0, 0), (1, 2)] ih' rfl (by repeat' (first | exact True.intro | refine ⟨⟨_, _, rfl, rfl, Wk.rfl⟩, ?_⟩ | refine ⟨⟨_, _, accV_ren rfl, rfl, Wk.rfl⟩, ?_⟩ | refine ⟨⟨_, _, accV_ren rfl, rfl, Wk.acc0⟩, ?_⟩ | refine ⟨⟨_, _, rfl, rfl, Wk.uncap⟩, ?_⟩ | refine ⟨⟨_, _, rfl, rfl, Wk.nil⟩, ?_⟩)) (by repeat' (first | exact True.intro | refine ⟨⟨_, _, _, rfl, rfl, rfl, WkO.rfl⟩, ?_⟩ | refine HeapOK.acc rfl rfl ?_ | refine HeapOK.es rfl rfl ?_)))
    · have hp : PN (i + 1) = 1 := if_neg h5
      rw [hp] at S ⊢
      refine M.use trivial S [(0, 0), (1, 1)] rfl rfl rfl (by repeat' (first | exact True.intro | refine ⟨⟨_, _, _, rfl, rfl, rfl, WkO.rfl⟩, ?_⟩ | refine HeapOK.acc rfl rfl ?_ | refine HeapOK.es rfl rfl ?_)) rfl rfl ?_
      refine M.go rfl ?_
      rw [hw]
      exact M.again (XH.ren [(0, 0), (1, 1)] ih' rfl (by repeat' (first | exact True.intro | refine ⟨⟨_, _, rfl, rfl, Wk.rfl⟩, ?_⟩ | refine ⟨⟨_, _, accV_ren rfl, rfl, Wk.rfl⟩, ?_⟩ | refine ⟨⟨_, _, accV_ren rfl, rfl, Wk.acc0⟩, ?_⟩ | refine ⟨⟨_, _, rfl, rfl, Wk.uncap⟩, ?_⟩ | refine ⟨⟨_, _, rfl, rfl, Wk.nil⟩, ?_⟩)) (by repeat' (first | exact True.intro | refine ⟨⟨_, _, _, rfl, rfl, rfl, WkO.rfl⟩, ?_⟩ | refine HeapOK.acc rfl rfl ?_ | refine HeapOK.es rfl rfl ?_)))
theorem NetMany_spec (n : Int) : CallS Try.prog base 15 [.c (.p (.int .i64 n))] ⟨[], 0⟩ (.c (.p (.bool true))) ⟨[], 0⟩ := by
  refine CallS.of noNG lMany.2 rfl (M.start (M.go rfl ?_))
  refine M.use0 trivial begun23_spec rfl rfl rfl ?_
  refine M.go rfl ?_
  refine M.dec rfl (fun h1 => ?_) (fun h1 => ?_)
  · refine M.go rfl ?_
    exact M.ret (M.go rfl (M.done (finQ.ret [] rfl rfl rfl (by first | exact Wk.rfl | exact Wk.uncap | exact Wk.nil | exact Wk.b1 rfl | exact Wk.t2 Wk.rfl (Wk.b1 rfl)) (by repeat' (first | exact True.intro | refine ⟨⟨_, _, _, rfl, rfl, rfl, WkO.rfl⟩, ?_⟩ | refine HeapOK.acc rfl rfl ?_ | refine HeapOK.es rfl rfl ?_)))))
  refine M.go rfl ?_
  refine M.cond rfl (fun h2 => ?_) (fun h2 => ?_)
  · refine M.go rfl ?_
    exact M.ret (M.go rfl (M.done (finQ.ret [] rfl rfl rfl (by first | exact Wk.rfl | exact Wk.uncap | exact Wk.nil | exact Wk.b1 rfl | exact Wk.t2 Wk.rfl (Wk.b1 rfl)) (by repeat' (first | exact True.intro | refine ⟨⟨_, _, _, rfl, rfl, rfl, WkO.rfl⟩, ?_⟩ | refine HeapOK.acc rfl rfl ?_ | refine HeapOK.es rfl rfl ?_)))))
  obtain ⟨N, rfl⟩ : ∃ N : Nat, n = N := ⟨n.toNat, by omega⟩
  refine M.go rfl ?_
  refine M.use trivial nnew_spec [] rfl rfl rfl trivial rfl rfl ?_
  refine M.go rfl ?_
  by_cases h0 : N = 0
  · subst h0
    refine M.loop (M.round (M.go rfl ?_))
    refine M.cond rfl (fun hn => absurd hn (by simp)) (fun _ => ?_)
    refine M.exit (M.go rfl (M.done (M.q (M.go rfl ?_))))
    refine M.use trivial (nlen0_spec ct0) [(0, 0)] rfl rfl rfl (by repeat' (first | exact True.intro | refine ⟨⟨_, _, _, rfl, rfl, rfl, WkO.rfl⟩, ?_⟩ | refine HeapOK.acc rfl rfl ?_ | refine HeapOK.es rfl rfl ?_)) rfl rfl ?_
    refine M.go rfl ?_
    refine M.condN rfl (fun hn => absurd (by decide) hn) (fun _ => ?_)
    refine M.go rfl ?_
    refine M.use trivial (npeek0_spec ct0) [(0, 0)] rfl rfl rfl (by repeat' (first | exact True.intro | refine ⟨⟨_, _, _, rfl, rfl, rfl, WkO.rfl⟩, ?_⟩ | refine HeapOK.acc rfl rfl ?_ | refine HeapOK.es rfl rfl ?_)) rfl rfl ?_
    refine M.go rfl ?_
    refine M.decB rfl (fun _ => ?_) (fun hn => absurd hn (by simp))
    refine M.go rfl ?_
    refine M.dec rfl (fun _ => ?_) (fun hn => absurd (by simp) hn)
    refine M.go rfl ?_
    exact M.ret (M.go rfl (M.done (finQ.ret [] rfl rfl rfl (by first | exact Wk.rfl | exact Wk.uncap | exact Wk.nil | exact Wk.b1 rfl | exact Wk.t2 Wk.rfl (Wk.b1 rfl)) (by repeat' (first | exact True.intro | refine ⟨⟨_, _, _, rfl, rfl, rfl, WkO.rfl⟩, ?_⟩ | refine HeapOK.acc rfl rfl ?_ | refine HeapOK.es rfl rfl ?_)))))
  · have hs := nowM_snd (fr := 1) (to := 2) (t := ((0 + 1 : Nat) : Int)) ⟨by omega, by omega⟩ ⟨by omega, by omega⟩ ⟨by omega, by omega⟩
    have S := nsend0_spec (base := base) (nowM 1 2 ((0 + 1 : Nat) : Int)) hs.good hs.bytes hs.len ct0
    refine M.loop (M.round (M.go rfl ?_))
    refine M.cond rfl (fun _ => ?_) (fun hn => absurd (by omega) hn)
    refine M.go rfl ?_
    rw [show IntKind.i64.wrap (0 + 1) = ((0 + 1 : Nat) : Int) from rfl]
    refine M.wkO (i := 26) (v' := (nowM 1 2 ((0 + 1 : Nat) : Int)).v) rfl (Wk.of rfl) ?_
    refine M.use trivial S [(0, 0)] rfl rfl rfl (by repeat' (first | exact True.intro | refine ⟨⟨_, _, _, rfl, rfl, rfl, WkO.rfl⟩, ?_⟩ | refine HeapOK.acc rfl rfl ?_ | refine HeapOK.es rfl rfl ?_)) rfl rfl ?_
    refine M.go rfl ?_
    rw [show IntKind.i64.wrap (0 + 1) = ((0 + 1 : Nat) : Int) from rfl]
    refine M.again (XH.ren [(0, 0), (1, 1)] (many_loop N (by omega) _ (fun h => ?_) (N - 1) 0 (by omega)) rfl (by repeat' (first | exact True.intro | refine ⟨⟨_, _, rfl, rfl, Wk.rfl⟩, ?_⟩ | refine ⟨⟨_, _, accV_ren rfl, rfl, Wk.rfl⟩, ?_⟩ | refine ⟨⟨_, _, accV_ren rfl, rfl, Wk.acc0⟩, ?_⟩ | refine ⟨⟨_, _, rfl, rfl, Wk.uncap⟩, ?_⟩ | refine ⟨⟨_, _, rfl, rfl, Wk.nil⟩, ?_⟩)) (by repeat' (first | exact True.intro | refine ⟨⟨_, _, _, rfl, rfl, rfl, WkO.rfl⟩, ?_⟩ | refine HeapOK.acc rfl rfl ?_ | refine HeapOK.es rfl rfl ?_)))
    refine M.q (M.go rfl (M.done (M.q (M.go rfl ?_))))
    have h1 : 1 ≤ N := h
    have S2 := npeek_spec (base := base) (LN N) (PN N) ct0 0 (msgB (nowM 1 2 ((N - 500 + 1 : Nat) : Int)).p) (LN_get h1) (nowM_snd (fr := 1) (to := 2) (t := ((N - 500 + 1 : Nat) : Int)) ⟨by omega, by omega⟩ ⟨by omega, by omega⟩ ⟨by omega, by omega⟩).bytes (nowM_snd (fr := 1) (to := 2) (t := ((N - 500 + 1 : Nat) : Int)) ⟨by omega, by omega⟩ ⟨by omega, by omega⟩ ⟨by omega, by omega⟩).len
    have S3 := (nowM_snd (fr := 1) (to := 2) (t := ((N - 500 + 1 : Nat) : Int)) ⟨by omega, by omega⟩ ⟨by omega, by omega⟩ ⟨by omega, by omega⟩)
    have S4 := (PMsg.p_tm S3.p).1
    have S5 := S3.ok
    generalize RS.ofB (msgB (nowM 1 2 ((N - 500 + 1 : Nat) : Int)).p) = R at S2 S4 S5
    refine M.use trivial (nlen_spec (LN N) (PN N) ct0) [(0, 0), (1, 1)] rfl rfl rfl (by repeat' (first | exact True.intro | refine ⟨⟨_, _, _, rfl, rfl, rfl, WkO.rfl⟩, ?_⟩ | refine HeapOK.acc rfl rfl ?_ | refine HeapOK.es rfl rfl ?_)) rfl rfl ?_
    refine M.go rfl ?_
    refine M.condN rfl (fun hn => absurd ?_ hn) (fun _ => ?_)
    · rw [LN_len]; unfold minI; split <;> omega
    refine M.go rfl ?_
    refine M.use trivial S2 [(0, 0), (1, 1)] rfl rfl rfl (by repeat' (first | exact True.intro | refine ⟨⟨_, _, _, rfl, rfl, rfl, WkO.rfl⟩, ?_⟩ | refine HeapOK.acc rfl rfl ?_ | refine HeapOK.es rfl rfl ?_)) rfl rfl ?_
    refine M.go rfl ?_
    refine M.decB rfl (fun _ => ?_) (fun hn => absurd hn (by simp [S5]; omega))
    refine M.go rfl ?_
    refine M.dec rfl (fun hn => absurd hn (by omega)) (fun _ => ?_)
    refine M.go rfl ?_
    rw [S4, wr64 (n := (N : Int) - 499) (by omega) (by omega)]
    refine M.decC (s := 2) rfl (fun _ => ?_) (fun hn => absurd hn ?_)
    · exact M.ret (M.go rfl (M.done (finQ.ret [] rfl rfl rfl (by first | exact Wk.rfl | exact Wk.uncap | exact Wk.nil | exact Wk.b1 rfl | exact Wk.t2 Wk.rfl (Wk.b1 rfl)) (by repeat' (first | exact True.intro | refine ⟨⟨_, _, _, rfl, rfl, rfl, WkO.rfl⟩, ?_⟩ | refine HeapOK.acc rfl rfl ?_ | refine HeapOK.es rfl rfl ?_)))))
    · simp only [nowM, Bool.not_eq_false]
      refine decide_eq_true ?_
      unfold maxI
      split <;> omega
theorem NetMany_law {p0 : PC} (h0 : Is (.int .i64) p0) : CallS Try.prog base 15 [xvP p0] ⟨[], 0⟩ (.c (.p (.bool true))) ⟨[], 0⟩ := by
  obtain ⟨n, rfl, -⟩ := h0.i64
  exact NetMany_spec n
end Go.Proofs.Yteegdhfekemhmaa

namespace Go.Proofs.Yteegdhfekemhmaa
open Go.RowKit Sim Go Sym
set_option maxRecDepth 100000
set_option linter.unusedVariables false
set_option linter.unusedSimpArgs false
variable {base : Nat}
def prP (a b : Int) : PC := .agg [.int .i64 a, .int .i64 b]
def ctP (a b : Int) : PC := .tz false 2 [prP a b, prP b a] none
def inC (a b c d : Int) : Bool := (decide (c = a) && decide (d = b)) || (decide (c = b) && decide (d = a))
theorem ctidx_yes (a b c d : Int) (h : inC a b c d = true) : ∃ i : Int, 0 ≤ i ∧ CallS Try.prog base 128 [.c (.p (ctP a b)), .agg [.p (.int .i64 c), .p (.int .i64 d)]] ⟨[], 0⟩ (.c (.p (.int .i64 i))) ⟨[], 0⟩ := by
  by_cases h1 : (decide (c = a) && decide (d = b)) = true
  · refine ⟨0, by omega, ?_⟩
    refine CallS.of noNG lCtI.2 rfl (M.start (M.go rfl ?_))
    refine M.loop (M.round (M.go rfl ?_))
    refine M.cond rfl (fun _ => ?_) (fun hn => absurd (by simp) hn)
    refine M.go rfl ?_
    refine M.regD (MD.go rfl ?_)
    refine MD.op trivial (SOp.ia (u := prP a b) rfl rfl (by omega) rfl) ?_
    refine MD.op trivial (SOp.ldne (u := prP a b) rfl rfl rfl rfl rfl) ?_
    refine MD.op trivial (SOp.eq2 rfl rfl) ?_
    refine MD.go rfl ?_
    refine MD.nil mixed (Fnl.nodup rfl) (M.go rfl ?_)
    refine M.condB rfl (fun _ => ?_) (fun hn => absurd h1 (by rw [hn]; decide))
    refine M.go rfl ?_
    exact M.ret (M.go rfl (M.done (finQ.ret [] rfl rfl rfl (by first | exact Wk.rfl | exact Wk.uncap | exact Wk.nil | exact Wk.b1 rfl | exact Wk.t2 Wk.rfl (Wk.b1 rfl)) (by repeat' (first | exact True.intro | refine ⟨⟨_, _, _, rfl, rfl, rfl, WkO.rfl⟩, ?_⟩ | refine HeapOK.acc rfl rfl ?_ | refine HeapOK.es rfl rfl ?_)))))
  · have h2 : (decide (c = b) && decide (d = a)) = true := by
      unfold inC at h
      cases h3 : (decide (c = a) && decide (d = b))
      · rwa [h3, Bool.false_or] at h
      · exact absurd h3 h1
    refine ⟨1, by omega, ?_⟩
    refine CallS.of noNG lCtI.2 rfl (M.start (M.go rfl ?_))
    refine M.loop (M.round (M.go rfl ?_))
    refine M.cond rfl (fun _ => ?_) (fun hn => absurd (by simp) hn)
    refine M.go rfl ?_
    refine M.regD (MD.go rfl ?_)
    refine MD.op trivial (SOp.ia (u := prP a b) rfl rfl (by omega) rfl) ?_
    refine MD.op trivial (SOp.ldne (u := prP a b) rfl rfl rfl rfl rfl) ?_
    refine MD.op trivial (SOp.eq2 rfl rfl) ?_
    refine MD.go rfl ?_
    refine MD.nil mixed (Fnl.nodup rfl) (M.go rfl ?_)
    refine M.condB rfl (fun hn => absurd hn h1) (fun _ => ?_)
    refine M.go rfl ?_
    refine M.again (M.round (M.go rfl ?_))
    refine M.cond rfl (fun _ => ?_) (fun hn => absurd (by show IntKind.i64.wrap (0 + 1) < ((2 : Nat) : Int); decide) hn)
    refine M.go rfl ?_
    refine M.regD (MD.go rfl ?_)
    refine MD.op trivial (SOp.ia (u := prP b a) rfl rfl (by decide) rfl) ?_
    refine MD.op trivial (SOp.ldne (u := prP b a) rfl rfl rfl rfl rfl) ?_
    refine MD.op trivial (SOp.eq2 rfl rfl) ?_
    refine MD.go rfl ?_
    refine MD.nil mixed (Fnl.nodup rfl) (M.go rfl ?_)
    refine M.condB rfl (fun _ => ?_) (fun hn => absurd h2 (by rw [hn]; decide))
    refine M.go rfl ?_
    exact M.ret (M.go rfl (M.done (finQ.ret [] rfl rfl rfl (by first | exact Wk.rfl | exact Wk.uncap | exact Wk.nil | exact Wk.b1 rfl | exact Wk.t2 Wk.rfl (Wk.b1 rfl)) (by repeat' (first | exact True.intro | refine ⟨⟨_, _, _, rfl, rfl, rfl, WkO.rfl⟩, ?_⟩ | refine HeapOK.acc rfl rfl ?_ | refine HeapOK.es rfl rfl ?_)))))
theorem ctidx_no (a b c d : Int) (h : inC a b c d = false) : CallS Try.prog base 128 [.c (.p (ctP a b)), .agg [.p (.int .i64 c), .p (.int .i64 d)]] ⟨[], 0⟩ (.c (.p (.int .i64 (-1)))) ⟨[], 0⟩ := by
  obtain ⟨h1, h2⟩ := Bool.or_eq_false_iff.1 h
  refine CallS.of noNG lCtI.2 rfl (M.start (M.go rfl ?_))
  refine M.loop (M.round (M.go rfl ?_))
  refine M.cond rfl (fun _ => ?_) (fun hn => absurd (by simp) hn)
  refine M.go rfl ?_
  refine M.regD (MD.go rfl ?_)
  refine MD.op trivial (SOp.ia (u := prP a b) rfl rfl (by omega) rfl) ?_
  refine MD.op trivial (SOp.ldne (u := prP a b) rfl rfl rfl rfl rfl) ?_
  refine MD.op trivial (SOp.eq2 rfl rfl) ?_
  refine MD.go rfl ?_
  refine MD.nil mixed (Fnl.nodup rfl) (M.go rfl ?_)
  refine M.condB rfl (fun hn => absurd h1 (by rw [hn]; decide)) (fun _ => ?_)
  refine M.go rfl ?_
  refine M.again (M.round (M.go rfl ?_))
  refine M.cond rfl (fun _ => ?_) (fun hn => absurd (by show IntKind.i64.wrap (0 + 1) < ((2 : Nat) : Int); decide) hn)
  refine M.go rfl ?_
  refine M.regD (MD.go rfl ?_)
  refine MD.op trivial (SOp.ia (u := prP b a) rfl rfl (by decide) rfl) ?_
  refine MD.op trivial (SOp.ldne (u := prP b a) rfl rfl rfl rfl rfl) ?_
  refine MD.op trivial (SOp.eq2 rfl rfl) ?_
  refine MD.go rfl ?_
  refine MD.nil mixed (Fnl.nodup rfl) (M.go rfl ?_)
  refine M.condB rfl (fun hn => absurd h2 (by rw [hn]; decide)) (fun _ => ?_)
  refine M.go rfl ?_
  refine M.again (M.round (M.go rfl ?_))
  refine M.cond rfl (fun hn => absurd hn (by show ¬ IntKind.i64.wrap (IntKind.i64.wrap (0 + 1) + 1) < ((2 : Nat) : Int); decide)) (fun _ => ?_)
  refine M.exit (M.go rfl ?_)
  iterate 3 refine M.done (M.q (M.go rfl ?_))
  exact M.ret (M.go rfl (M.done (finQ.ret [] rfl rfl rfl (by first | exact Wk.rfl | exact Wk.uncap | exact Wk.nil | exact Wk.b1 rfl | exact Wk.t2 Wk.rfl (Wk.b1 rfl)) (by repeat' (first | exact True.intro | refine ⟨⟨_, _, _, rfl, rfl, rfl, WkO.rfl⟩, ?_⟩ | refine HeapOK.acc rfl rfl ?_ | refine HeapOK.es rfl rfl ?_)))))
theorem ctin_spec (a b c d : Int) : CallS Try.prog base 119 [.c (.p (ctP a b)), .agg [.p (.int .i64 c), .p (.int .i64 d)]] ⟨[], 0⟩ (.c (.p (.bool (inC a b c d)))) ⟨[], 0⟩ := by
  cases h : inC a b c d with
  | true =>
    obtain ⟨i, hi, C⟩ := ctidx_yes (base := base) a b c d h
    refine CallS.of noNG lCtC.2 rfl (M.start (M.go rfl ?_))
    refine M.use0 trivial C rfl rfl rfl ?_
    refine M.go rfl ?_
    refine M.decC (s := 4) rfl (fun _ => ?_) (fun hn => absurd hn (by simp; omega))
    exact M.ret (M.go rfl (M.done (finQ.ret [] rfl rfl rfl (by first | exact Wk.rfl | exact Wk.uncap | exact Wk.nil | exact Wk.b1 rfl | exact Wk.t2 Wk.rfl (Wk.b1 rfl)) (by repeat' (first | exact True.intro | refine ⟨⟨_, _, _, rfl, rfl, rfl, WkO.rfl⟩, ?_⟩ | refine HeapOK.acc rfl rfl ?_ | refine HeapOK.es rfl rfl ?_)))))
  | false =>
    refine CallS.of noNG lCtC.2 rfl (M.start (M.go rfl ?_))
    refine M.use0 trivial (ctidx_no a b c d h) rfl rfl rfl ?_
    refine M.go rfl ?_
    refine M.decC (s := 4) rfl (fun hn => absurd hn (by decide)) (fun _ => ?_)
    exact M.ret (M.go rfl (M.done (finQ.ret [] rfl rfl rfl (by first | exact Wk.rfl | exact Wk.uncap | exact Wk.nil | exact Wk.b1 rfl | exact Wk.t2 Wk.rfl (Wk.b1 rfl)) (by repeat' (first | exact True.intro | refine ⟨⟨_, _, _, rfl, rfl, rfl, WkO.rfl⟩, ?_⟩ | refine HeapOK.acc rfl rfl ?_ | refine HeapOK.es rfl rfl ?_)))))
theorem ntakeC_spec (l : List PC) (p : Nat) (i : Nat) (x : List Int) (a b : Int) (hi : l[i]? = some (pkP (sealB x))) (hB : Bytes x) (hx : x.length ≤ 65536) (hl : l.length ≤ 1000) (hok : (RS.ofB x).2 = 0) : CallS Try.prog base 76 [.c (.ptr 0 0), .c (.p (.int .i64 i))] (hN 1 l p (ctP a b)) (.tup [(match inC a b (RS.ofB x).1.fr (RS.ofB x).1.to with | true => PMsg.zero | false => (RS.ofB x).1).v, .c (.p (.bool (!(inC a b (RS.ofB x).1.fr (RS.ofB x).1.to))))]) (hN 1 (l.eraseIdx i) (p + 1) (ctP a b)) := by
  have hi2 : i < l.length := lt_of_get hi
  refine CallS.of noNG lNTk.2 rfl (M.start (M.go rfl ?_))
  refine M.use trivial (npeek_spec l p (ctP a b) i x hi hB hx) [(0, 0), (1, 1)] rfl rfl rfl (by repeat' (first | exact True.intro | refine ⟨⟨_, _, _, rfl, rfl, rfl, WkO.rfl⟩, ?_⟩ | refine HeapOK.acc rfl rfl ?_ | refine HeapOK.es rfl rfl ?_)) rfl rfl ?_
  refine M.go rfl ?_
  refine M.decC (s := 7) rfl (fun _ => ?_) (fun hn => absurd hn (by simpa using hok))
  refine M.go rfl ?_
  refine M.regD (MD.go rfl ?_)
  refine MD.use trivial (ndrop_spec l p (ctP a b) i hi2 hl) [(0, 0), (1, 1)] rfl rfl rfl (by repeat' (first | exact True.intro | refine ⟨⟨_, _, _, rfl, rfl, rfl, WkO.rfl⟩, ?_⟩ | refine HeapOK.acc rfl rfl ?_ | refine HeapOK.es rfl rfl ?_)) rfl rfl ?_
  refine MD.go rfl ?_
  have C := ctin_spec (base := base) a b (RS.ofB x).1.fr (RS.ofB x).1.to
  cases h : inC a b (RS.ofB x).1.fr (RS.ofB x).1.to with
  | true =>
    rw [h] at C
    refine MD.use0 (by first | exact True.intro | exact rfl) C rfl rfl rfl ?_
    refine MD.go rfl ?_
    refine MD.nil mixed (Fnl.nodup rfl) (M.go rfl ?_)
    refine M.go rfl ?_
    exact M.ret (M.go rfl (M.done (finQ.ret [(0, 0), (1, 1)] rfl rfl rfl (Wk.of rfl) (by repeat' (first | exact True.intro | refine ⟨⟨_, _, _, rfl, rfl, rfl, WkO.rfl⟩, ?_⟩ | refine HeapOK.acc rfl rfl ?_ | refine HeapOK.es rfl rfl ?_)))))
  | false =>
    rw [h] at C
    refine MD.use0 (by first | exact True.intro | exact rfl) C rfl rfl rfl ?_
    refine MD.go rfl ?_
    refine MD.nil mixed (Fnl.nodup rfl) (M.go rfl ?_)
    refine M.go rfl ?_
    exact M.ret (M.go rfl (M.done (finQ.ret [(0, 0), (1, 1)] rfl rfl rfl (Wk.of rfl) (by repeat' (first | exact True.intro | refine ⟨⟨_, _, _, rfl, rfl, rfl, WkO.rfl⟩, ?_⟩ | refine HeapOK.acc rfl rfl ?_ | refine HeapOK.es rfl rfl ?_)))))
noncomputable def lNCut : {F : LF // lowerF Try.prog 77 = some F} := ⟨_, rfl⟩
def hNc (a b : Int) : HS := ⟨[(1, some (.els 2 [prP a b, prP b a])), (0, some (.row [.p (.tz true 1 [] none), .sl 1 0 2 2 none] true))], 2⟩
theorem ncut_spec (a b : Int) : CallS Try.prog base 77 [.c (.ptr 0 0), .c (.p (.int .i64 a)), .c (.p (.int .i64 b))] (hN0 ct0) (.tup []) (hNc a b) := by
  refine CallS.of noNG lNCut.2 rfl (M.start (M.go rfl ?_))
  refine M.op trivial (SOp.appN rfl rfl (.own rfl rfl) (by simp) (by simp)) ?_
  refine M.go rfl ?_
  exact M.done (finQ.normal [(0, 0), (1, 2)] rfl rfl rfl Wk.rfl (by repeat' (first | exact True.intro | refine ⟨⟨_, _, _, rfl, rfl, rfl, WkO.rfl⟩, ?_⟩ | refine HeapOK.acc rfl rfl ?_ | refine HeapOK.es rfl rfl ?_)))
noncomputable def lNC : {F : LF // lowerF Try.prog 17 = some F} := ⟨_, rfl⟩
theorem NetCut_spec (a b fr to : Int) (hfr : InI64 fr) (hto : InI64 to) : CallS Try.prog base 17 [.c (.p (.int .i64 a)), .c (.p (.int .i64 b)), .c (.p (.int .i64 fr)), .c (.p (.int .i64 to))] ⟨[], 0⟩ (.c (.p (.bool true))) ⟨[], 0⟩ := by
  have h1 := nowM_snd hfr hto (t := 1) ⟨by omega, by omega⟩
  have h2 := nowM_snd hfr hto (t := 2) ⟨by omega, by omega⟩
  have T1 := ntakeC_spec (base := base) [pkP (nowM fr to 1).pk] 0 0 (msgB (nowM fr to 1).p) a b rfl h1.bytes h1.len (by simp) h1.ok
  obtain ⟨q1, q2, q3⟩ := PMsg.p_tm h1.p
  rw [q2, q3] at T1
  have T2 := ntake_spec (base := base) [pkP (nowM fr to 2).pk] 0 0 (msgB (nowM fr to 2).p) rfl h2.bytes h2.len (by simp) h2.ok
  obtain ⟨p1, p2, p3⟩ := PMsg.p_tm h2.p
  have P2 := nsend_spec (base := base) (nowM fr to 2) h2.good h2.bytes h2.len [] 1 ct0 (by simp)
  refine CallS.of noNG lNC.2 rfl (M.start (M.go rfl ?_))
  refine M.use0 trivial begun23_spec rfl rfl rfl ?_
  refine M.go rfl ?_
  refine M.use trivial nnew_spec [] rfl rfl rfl trivial rfl rfl ?_
  refine M.go rfl ?_
  refine M.use trivial (ncut_spec a b) [(0, 0)] rfl rfl rfl (by repeat' (first | exact True.intro | refine ⟨⟨_, _, _, rfl, rfl, rfl, WkO.rfl⟩, ?_⟩ | refine HeapOK.acc rfl rfl ?_ | refine HeapOK.es rfl rfl ?_)) rfl rfl ?_
  refine M.go rfl ?_
  refine M.shO (Sh.freezeR (b0 := 0) (o := 1) (b := 1) (s := 2) (m := 2) (el := [prP a b, prP b a]) (c := none) rfl rfl rfl rfl rfl rfl Sh.refl) ?_
  refine M.wkO (i := 27) (v' := (nowM fr to 1).v) rfl (Wk.of rfl) ?_
  refine M.use trivial (nsend0_spec (nowM fr to 1) h1.good h1.bytes h1.len (ctP a b)) [(0, 0)] rfl rfl rfl (by repeat' (first | exact True.intro | refine ⟨⟨_, _, _, rfl, rfl, rfl, WkO.rfl⟩, ?_⟩ | refine HeapOK.acc rfl rfl ?_ | refine HeapOK.es rfl rfl ?_)) rfl rfl ?_
  refine M.go rfl ?_
  obtain ⟨I, hI⟩ : ∃ I, I = inC a b fr to := ⟨_, rfl⟩
  have T1' : ∃ v, CallS Try.prog base 76 [.c (.ptr 0 0), .c (.p (.int .i64 (0 : Nat)))] (hN 1 [pkP (nowM fr to 1).pk] 0 (ctP a b)) (.tup [PMsg.v v, .c (.p (.bool (!I)))]) (hN 1 [] 1 (ctP a b)) := by
    have e : inC a b (nowM fr to 1).fr (nowM fr to 1).to = inC a b fr to := rfl
    rw [e] at T1
    rw [hI]
    generalize inC a b fr to = J at T1
    cases J <;> exact ⟨_, T1⟩
  obtain ⟨v, T1'⟩ := T1'
  refine M.use trivial T1' [(0, 0), (1, 2)] rfl rfl rfl (by repeat' (first | exact True.intro | refine ⟨⟨_, _, _, rfl, rfl, rfl, WkO.rfl⟩, ?_⟩ | refine HeapOK.acc rfl rfl ?_ | refine HeapOK.es rfl rfl ?_)) rfl rfl ?_
  refine M.go rfl ?_
  refine M.midVO [(2, .c (.p (.int .i64 fr))), (3, .c (.p (.int .i64 to))), (10, .c (.ptr 0 0)), (12, .c (.p (.bool (!I)))), (13, .c (.p (.bs I)))] (hN 1 [] 1 (ctP a b)) ?_ ?_
  · rw [hI]
    refine M.dec rfl (fun g1 => ?_) (fun g1 => ?_)
    · refine M.go rfl ?_
      refine M.dec rfl (fun g2 => ?_) (fun g2 => ?_)
      · refine M.go rfl ?_
        exact M.done ⟨rfl, Sh.ren [(0, 0), (1, 2)] rfl ⟨⟨_, _, rfl, rfl, Wk.rfl⟩, ⟨_, _, rfl, rfl, Wk.rfl⟩, ⟨_, _, rfl, rfl, Wk.rfl⟩, ⟨_, _, rfl, rfl, Wk.rfl⟩, ⟨_, _, rfl, rfl, Wk.of (by simp only [inC, XV.sv, XC.sc, PC.sc]; by_cases k1 : fr = a <;> by_cases k2 : to = b <;> by_cases k3 : fr = b <;> by_cases k4 : to = a <;> simp_all)⟩, trivial⟩ (by repeat' (first | exact True.intro | refine ⟨⟨_, _, _, rfl, rfl, rfl, WkO.rfl⟩, ?_⟩ | refine HeapOK.acc rfl rfl ?_ | refine HeapOK.es rfl rfl ?_))⟩
      · refine M.go rfl ?_
        refine M.dec rfl (fun g3 => ?_) (fun g3 => ?_)
        · refine M.go rfl ?_
          exact M.done ⟨rfl, Sh.ren [(0, 0), (1, 2)] rfl ⟨⟨_, _, rfl, rfl, Wk.rfl⟩, ⟨_, _, rfl, rfl, Wk.rfl⟩, ⟨_, _, rfl, rfl, Wk.rfl⟩, ⟨_, _, rfl, rfl, Wk.rfl⟩, ⟨_, _, rfl, rfl, Wk.of (by simp only [inC, XV.sv, XC.sc, PC.sc]; by_cases k1 : fr = a <;> by_cases k2 : to = b <;> by_cases k3 : fr = b <;> by_cases k4 : to = a <;> simp_all)⟩, trivial⟩ (by repeat' (first | exact True.intro | refine ⟨⟨_, _, _, rfl, rfl, rfl, WkO.rfl⟩, ?_⟩ | refine HeapOK.acc rfl rfl ?_ | refine HeapOK.es rfl rfl ?_))⟩
        · refine M.go rfl ?_
          exact M.done ⟨rfl, Sh.ren [(0, 0), (1, 2)] rfl ⟨⟨_, _, rfl, rfl, Wk.rfl⟩, ⟨_, _, rfl, rfl, Wk.rfl⟩, ⟨_, _, rfl, rfl, Wk.rfl⟩, ⟨_, _, rfl, rfl, Wk.rfl⟩, ⟨_, _, rfl, rfl, Wk.of (by simp only [inC, XV.sv, XC.sc, PC.sc]; by_cases k1 : fr = a <;> by_cases k2 : to = b <;> by_cases k3 : fr = b <;> by_cases k4 : to = a <;> simp_all)⟩, trivial⟩ (by repeat' (first | exact True.intro | refine ⟨⟨_, _, _, rfl, rfl, rfl, WkO.rfl⟩, ?_⟩ | refine HeapOK.acc rfl rfl ?_ | refine HeapOK.es rfl rfl ?_))⟩
    · refine M.go rfl ?_
      refine M.dec rfl (fun g3 => ?_) (fun g3 => ?_)
      · refine M.go rfl ?_
        exact M.done ⟨rfl, Sh.ren [(0, 0), (1, 2)] rfl ⟨⟨_, _, rfl, rfl, Wk.rfl⟩, ⟨_, _, rfl, rfl, Wk.rfl⟩, ⟨_, _, rfl, rfl, Wk.rfl⟩, ⟨_, _, rfl, rfl, Wk.rfl⟩, ⟨_, _, rfl, rfl, Wk.of (by simp only [inC, XV.sv, XC.sc, PC.sc]; by_cases k1 : fr = a <;> by_cases k2 : to = b <;> by_cases k3 : fr = b <;> by_cases k4 : to = a <;> simp_all)⟩, trivial⟩ (by repeat' (first | exact True.intro | refine ⟨⟨_, _, _, rfl, rfl, rfl, WkO.rfl⟩, ?_⟩ | refine HeapOK.acc rfl rfl ?_ | refine HeapOK.es rfl rfl ?_))⟩
      · refine M.go rfl ?_
        exact M.done ⟨rfl, Sh.ren [(0, 0), (1, 2)] rfl ⟨⟨_, _, rfl, rfl, Wk.rfl⟩, ⟨_, _, rfl, rfl, Wk.rfl⟩, ⟨_, _, rfl, rfl, Wk.rfl⟩, ⟨_, _, rfl, rfl, Wk.rfl⟩, ⟨_, _, rfl, rfl, Wk.of (by simp only [inC, XV.sv, XC.sc, PC.sc]; by_cases k1 : fr = a <;> by_cases k2 : to = b <;> by_cases k3 : fr = b <;> by_cases k4 : to = a <;> simp_all)⟩, trivial⟩ (by repeat' (first | exact True.intro | refine ⟨⟨_, _, _, rfl, rfl, rfl, WkO.rfl⟩, ?_⟩ | refine HeapOK.acc rfl rfl ?_ | refine HeapOK.es rfl rfl ?_))⟩
  refine M.go rfl ?_
  refine M.use trivial (nheal_spec [] 1 (ctP a b)) [(0, 0), (1, 1)] rfl rfl rfl (by repeat' (first | exact True.intro | refine ⟨⟨_, _, _, rfl, rfl, rfl, WkO.rfl⟩, ?_⟩ | refine HeapOK.acc rfl rfl ?_ | refine HeapOK.es rfl rfl ?_)) rfl rfl ?_
  refine M.go rfl ?_
  refine M.wkO (i := 57) (v' := (nowM fr to 2).v) rfl (Wk.of rfl) ?_
  refine M.use trivial P2 [(0, 0), (1, 1)] rfl rfl rfl (by repeat' (first | exact True.intro | refine ⟨⟨_, _, _, rfl, rfl, rfl, WkO.rfl⟩, ?_⟩ | refine HeapOK.acc rfl rfl ?_ | refine HeapOK.es rfl rfl ?_)) rfl rfl ?_
  refine M.go rfl ?_
  refine M.use trivial T2 [(0, 0), (1, 1)] rfl rfl rfl (by repeat' (first | exact True.intro | refine ⟨⟨_, _, _, rfl, rfl, rfl, WkO.rfl⟩, ?_⟩ | refine HeapOK.acc rfl rfl ?_ | refine HeapOK.es rfl rfl ?_)) rfl rfl ?_
  refine M.go rfl ?_
  refine M.decB rfl (fun _ => ?_) (fun hn => absurd hn (by cases I <;> decide))
  refine M.go rfl ?_
  refine M.dec rfl (fun _ => ?_) (fun hn => absurd p1 hn)
  refine M.go rfl ?_
  refine M.use (by first | exact True.intro | exact rfl) (nlen_spec [] 1 ct0) [(0, 0), (1, 1)] rfl rfl rfl (by repeat' (first | exact True.intro | refine ⟨⟨_, _, _, rfl, rfl, rfl, WkO.rfl⟩, ?_⟩ | refine HeapOK.acc rfl rfl ?_ | refine HeapOK.es rfl rfl ?_)) rfl rfl ?_
  refine M.go rfl ?_
  refine M.decC (s := 8) rfl (fun _ => ?_) (fun hn => absurd hn (by decide))
  exact M.ret (M.go rfl (M.done (finQ.ret [] rfl rfl rfl (by first | exact Wk.rfl | exact Wk.uncap | exact Wk.nil | exact Wk.b1 rfl | exact Wk.t2 Wk.rfl (Wk.b1 rfl)) (by repeat' (first | exact True.intro | refine ⟨⟨_, _, _, rfl, rfl, rfl, WkO.rfl⟩, ?_⟩ | refine HeapOK.acc rfl rfl ?_ | refine HeapOK.es rfl rfl ?_)))))
theorem NetCut_law {p0 p1 p2 p3 : PC} (h0 : Is (.int .i64) p0) (h1 : Is (.int .i64) p1) (h2 : Is (.int .i64) p2) (h3 : Is (.int .i64) p3) : CallS Try.prog base 17 [xvP p0, xvP p1, xvP p2, xvP p3] ⟨[], 0⟩ (.c (.p (.bool true))) ⟨[], 0⟩ := by
  obtain ⟨a, rfl, -⟩ := h0.i64
  obtain ⟨b, rfl, -⟩ := h1.i64
  obtain ⟨c, rfl, hc⟩ := h2.i64
  obtain ⟨d, rfl, hd⟩ := h3.i64
  exact NetCut_spec a b c d (i64_in hc) (i64_in hd)
end Go.Proofs.Yteegdhfekemhmaa
