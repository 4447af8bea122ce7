/- Texts of this claim, several in one: D8, D9, D10, D11, D12, D14, D15, W1, W2, W4, W5, W6, W7, W12, W15, W13. -/
import Derived.Test.YtjlfojgacnphmaaMgKeepVotes13
import Derived.Sort.KeysCollected
namespace Go.Proofs.Ytjlfojgacnphmaa
open Go.RowKit Sim Go Sym
set_option maxRecDepth 100000
set_option linter.unusedVariables false
set_option linter.unusedSimpArgs false
variable {base : Nat}
section
variable {φ : Ph} {h : SH} {w w' : World}
end
theorem str_at (bs : List UInt8) (φ : Ph) : CR φ (.str (bs.map UInt8.toNat)) (encStr bs) := ⟨⟨bs.toArray⟩, rfl, by simp⟩
structure NOK (F : FS) : Prop where
  nd : (F.map (fun e => e.2.1)).Nodup
  len : ∀ e ∈ F, e.2.1.length ≤ 1000
  sz : F.length ≤ 1000000
end Go.Proofs.Ytjlfojgacnphmaa

namespace Go.Proofs.Ytjlfojgacnphmaa
open Go.RowKit Sim Go Sym
set_option maxRecDepth 100000
set_option linter.unusedVariables false
set_option linter.unusedSimpArgs false
variable {base : Nat}
theorem apF_ne {z : Bool} {old new : List Int} (h : new ≠ []) : apF z old new = fP false (old ++ new) none := if_neg h
def f1 (name : List Nat) (f : PC) : FS := [(0, name, f)]
theorem f1_ok (name : List Nat) (z : Bool) (bs : List Int) (cp : Option Nat) : FOK (f1 name (fP z bs cp)) 1 := ⟨fun e he => by simp [f1] at he; subst he; simp, by simp [f1], fun e he => by simp [f1] at he; subst he; exact ⟨z, bs, cp, rfl⟩⟩
theorem f0_ok (c : Nat) : FOK [] c := ⟨fun e he => (by cases he), (by simp), fun e he => (by cases he)⟩
theorem do_first (name to : List Nat) (n : Int) (zb : Bool) (b : List Int) (cb : Option Nat) (hb : b.length ≤ 100000000) (h0 : b ≠ []) : CallS Try.prog base 66 [.c (.mp 0), .agg ((chX 0 name to (fP zb b cb) n).map XC.p), .c (.p (.int .i64 b.length))] ⟨[(0, some (fM [] 0))], 1⟩ (.tup []) ⟨[(0, some (fM (f1 name (fP false b none)) 1))], 1⟩ := by
  have := do_app0 (base := base) [] 0 name to n rfl zb b cb b.length (Nat.le_refl _) hb
  rw [List.take_length, apF_ne h0] at this
  exact this
end Go.Proofs.Ytjlfojgacnphmaa

namespace Go.Proofs.Ytjlfojgacnphmaa
open Go.RowKit Sim Go Sym
set_option maxRecDepth 100000
set_option linter.unusedVariables false
set_option linter.unusedSimpArgs false
variable {base : Nat}
end Go.Proofs.Ytjlfojgacnphmaa

namespace Go.Proofs.Ytjlfojgacnphmaa
open Go.RowKit Sim Go Sym
set_option maxRecDepth 100000
set_option linter.unusedVariables false
set_option linter.unusedSimpArgs false
variable {base : Nat}
section
variable {P : Program} {n : Nat} {e : Env} {h : HS}
end
def hCr0 (room : Int) (L : FS) (lc : Nat) (F : FS) (c : Nat) : HS := ⟨[(5, some (fM L lc)), (4, some (fM L lc)), (3, some (.row [.p (.int .i64 room), .mp 4, .mp 5, .p (.tz true 5 [] none)] true)), (2, some (fM F c)), (1, some (fM L lc)), (0, some (.row [.p (.int .i64 room), .mp 1, .mp 2, .p (.tz true 5 [] none)] true))], 6⟩
theorem crash0_spec (room : Int) (L : FS) (lc : Nat) (F : FS) (c : Nat) (n torn : Int) :
    CallS Try.prog base 23 [.c (.ptr 0 0), .c (.p (.int .i64 n)), .c (.p (.int .i64 torn))] (hD0 room L lc F c) (.c (.ptr 3 0)) (hCr0 room L lc F c) := by
  refine CallS.of noNG lCr.2 rfl (M.start (M.go rfl ?_))
  refine M.regF (MF.go rfl ?_)
  refine MF.use trivial (mclone_spec L lc) [(0, 1)] rfl rfl rfl (by repeat' (first | exact True.intro | refine hpC rfl rfl rfl ?_ | refine ⟨⟨_, _, _, rfl, rfl, rfl, @WkO.rfl _⟩, ?_⟩ | refine HeapOK.acc rfl rfl ?_)) rfl rfl ?_
  refine MF.go rfl ?_
  refine MF.nil mixed (Fnl.nodup rfl) rfl ⟨⟨stepX_ok rfl, trivial⟩, trivial⟩ (M.go rfl ?_)
  refine M.loop (M.round (M.go rfl ?_))
  refine M.cond rfl (fun hn => absurd hn (by simp)) (fun _ => ?_)
  refine M.exit (M.go rfl (M.done (M.q (M.go rfl ?_))))
  refine M.use trivial (mclone_spec L lc) [(0, 3)] rfl rfl rfl (by repeat' (first | exact True.intro | refine hpC rfl rfl rfl ?_ | refine ⟨⟨_, _, _, rfl, rfl, rfl, @WkO.rfl _⟩, ?_⟩ | refine HeapOK.acc rfl rfl ?_)) rfl rfl ?_
  refine M.go rfl ?_
  exact M.ret (M.go rfl (M.done (finQ.ret [(0, 0), (1, 1), (2, 2), (3, 4), (4, 3), (5, 5)] rfl rfl rfl (by first | exact Wk.rfl | exact Wk.uncap | exact Wk.nil | exact Wk.b1 rfl | exact Wk.t2 Wk.rfl (Wk.b1 rfl)) ⟨(hpX rfl rfl rfl), (hpX rfl rfl rfl), ⟨_, _, _, rfl, rfl, rfl, WkO.row ⟨Wk.rfl, Wk.rfl, Wk.rfl, Wk.nil, trivial⟩⟩, (hpX rfl rfl rfl), (hpX rfl rfl rfl), (hpX rfl rfl rfl), trivial⟩)))
def zs (k : Nat) : List Int := List.replicate k 0
def nmF : List Nat := [102]
def tcg (k : Nat) : Chg := ⟨0, nmF, [], false, zs k, none, 0⟩
def mB : Int := roomI 1048576
theorem mB_eq : mB = 1048576 := by decide
end Go.Proofs.Ytjlfojgacnphmaa

namespace Go.Proofs.Ytjlfojgacnphmaa
open Go.RowKit Sim Go Sym
set_option maxRecDepth 100000
set_option linter.unusedVariables false
set_option linter.unusedSimpArgs false
variable {base : Nat}
def kz (t : Int) : Nat := (t.tmod 50).natAbs
def pcs (l : List Nat) : List PC := l.map fun k => (tcg k).pc
def ksT (T : List Int) : List Nat := (T.take 20).map kz
theorem ksT_at {T : List Int} {pre rest : List Nat} {k : Nat} (h : ksT T = pre ++ k :: rest) : ∃ t, (inP T)[pre.length]? = some (.int .i64 t) ∧ k = kz t ∧ pre.length < T.length ∧ pre.length < 20 := by
  have h1 : (ksT T)[pre.length]? = some k := by rw [h]; simp
  simp only [ksT, List.getElem?_map, Option.map_eq_some_iff] at h1
  obtain ⟨t, h2, h3⟩ := h1
  rw [List.getElem?_take] at h2
  split at h2
  · rename_i h4
    exact ⟨t, by simp [inP, h2], h3.symm, (List.getElem?_eq_some_iff.1 h2).1, h4⟩
  · cases h2
end Go.Proofs.Ytjlfojgacnphmaa

namespace Go.Proofs.Ytjlfojgacnphmaa
open Go.RowKit Sim Go Sym
set_option maxRecDepth 100000
set_option linter.unusedVariables false
set_option linter.unusedSimpArgs false
variable {base : Nat}
def nm (i : Nat) : List Nat := [102, 97 + i / 26, 97 + i % 26]
end Go.Proofs.Ytjlfojgacnphmaa

namespace Go.Proofs.Ytjlfojgacnphmaa
open Go.RowKit Sim Go Sym
set_option maxRecDepth 100000
set_option linter.unusedVariables false
set_option linter.unusedSimpArgs false
variable {base : Nat}
end Go.Proofs.Ytjlfojgacnphmaa

namespace Go.Proofs.Ytjlfojgacnphmaa
open Go.RowKit Sim Go Sym
set_option maxRecDepth 100000
set_option linter.unusedVariables false
set_option linter.unusedSimpArgs false
variable {base : Nat}
noncomputable def lBcO : {F : LF // lowerF Try.prog 67 = some F} := ⟨_, rfl⟩
theorem bclO_spec (x : PC) (el : List PC) (hl : el.length ≤ 1000000000) : CallS Try.prog base 67 [.c (.acc 0 1 (x :: el))] ⟨[(0, some (.els 1 (x :: el)))], 1⟩ (.c (.sl 1 0 (x :: el).length 1 none)) ⟨[(1, some (.els 1 (x :: el))), (0, some (.els 1 (x :: el)))], 2⟩ := by
  refine CallS.of noNG lBcO.2 rfl (M.start ?_)
  refine M.wk (i := 0) (v' := .c (.sl 0 0 (x :: el).length 1 none)) rfl (Wk.of rfl) (M.go rfl ?_)
  refine M.op trivial (SOp.appF (ex := []) (el := x :: el) rfl rfl rfl (by simp) rfl (.own rfl rfl) (by simp) (by simp; omega)) ?_
  refine M.go rfl ?_
  rw [List.length_nil, Nat.zero_add, List.nil_append]
  exact M.ret (M.go rfl (M.done (finQ.ret [(0, 0), (1, 2)] rfl rfl rfl (by first | exact Wk.rfl | exact Wk.uncap | exact Wk.nil | exact Wk.b1 rfl | exact Wk.t2 Wk.rfl (Wk.b1 rfl)) (by repeat' (first | exact True.intro | refine hpC rfl rfl rfl ?_ | refine ⟨⟨_, _, _, rfl, rfl, rfl, @WkO.rfl _⟩, ?_⟩ | refine HeapOK.acc rfl rfl ?_)))))
noncomputable def lWby : {F : LF // lowerF Try.prog 102 = some F} := ⟨_, rfl⟩
def hWy (x : Int) (bs : List Int) : HS := ⟨[(2, some (.els 1 (u8P (x :: bs)))), (1, some (.els 1 (u8P (x :: bs)))), (0, some (.row [.acc 1 1 (u8P (x :: bs))] true))], 3⟩
theorem wbytesO_spec (x : Int) (bs : List Int) (hl : bs.length ≤ 1000000) : CallS Try.prog base 102 [.c (.ptr 0 0)] (hW 1 (x :: bs)) (.c (.sl 2 0 (u8P (x :: bs)).length 1 none)) (hWy x bs) := by
  refine CallS.of noNG lWby.2 rfl (M.start (M.go rfl ?_))
  refine M.use trivial (bclO_spec (.int .u8 x) (u8P bs) (by rw [u8P_len]; omega)) [(0, 1)] rfl rfl rfl (by repeat' (first | exact True.intro | refine hpC rfl rfl rfl ?_ | refine ⟨⟨_, _, _, rfl, rfl, rfl, @WkO.rfl _⟩, ?_⟩ | refine HeapOK.acc rfl rfl ?_)) rfl rfl ?_
  refine M.go rfl ?_
  exact M.ret (M.go rfl (M.done (finQ.ret [(0, 0), (1, 1), (2, 2)] rfl rfl rfl (by first | exact Wk.rfl | exact Wk.uncap | exact Wk.nil | exact Wk.b1 rfl | exact Wk.t2 Wk.rfl (Wk.b1 rfl)) (by repeat' (first | exact True.intro | refine hpC rfl rfl rfl ?_ | refine ⟨⟨_, _, _, rfl, rfl, rfl, @WkO.rfl _⟩, ?_⟩ | refine HeapOK.acc rfl rfl ?_)))))
noncomputable def lWse : {F : LF // lowerF Try.prog 64 = some F} := ⟨_, rfl⟩
def recB (n : Int) (b : List Int) : List Int := numB n ++ b
theorem wseal_spec (n : Int) (hn : InI64 n) (z : Bool) (b : List Int) (c : Option Nat) (hB : Bytes b) (hl : (recB n b).length ≤ 65536) : CallS Try.prog base 64 [.c (.p (.int .i64 n)), .c (.p (.tz z 1 (u8P b) c))] ⟨[], 0⟩ (.c (.p (.tz false 1 (u8P (sealB (recB n b))) none))) ⟨[], 0⟩ := by
  have hne : numB n ≠ [] := by intro e; have := numB_pos n; rw [e] at this; simp at this
  have hlb : (u8P b).length = b.length := u8P_len b
  have hnl : (numB n).length + b.length ≤ 65536 := by simpa [recB] using hl
  have hBr : Bytes (recB n b) := by
    intro y hy
    rcases List.mem_append.1 hy with h | h
    · exact numB_bytes n y h
    · exact hB y h
  refine CallS.of noNG lWse.2 rfl (M.start (M.go rfl ?_))
  refine M.shO (Sh.wkH (b0 := 0) (o' := .row [.p (.tz true 1 [] none)] true) rfl rfl (WkO.row ⟨Wk.nil, trivial⟩) Sh.refl) ?_
  refine M.use trivial (wnum0_spec n hn) [(0, 0)] rfl rfl rfl (by repeat' (first | exact True.intro | refine hpC rfl rfl rfl ?_ | refine ⟨⟨_, _, _, rfl, rfl, rfl, @WkO.rfl _⟩, ?_⟩ | refine HeapOK.acc rfl rfl ?_)) rfl rfl ?_
  refine M.go rfl ?_
  have hnp := numB_pos n
  have hBr' := hBr
  unfold recB at hBr' hl
  have S0 := fun (h : (numB n ++ b).length ≤ 65536) => sealS_yes (base := base) false none (numB n ++ b) hBr' h
  have hgoal : sealB (recB n b) = sealB (numB n ++ b) := rfl
  rw [hgoal]
  generalize hN : numB n = N at *
  cases N with
  | nil => simp at hnp
  | cons y N =>
  refine M.use trivial (wbytesO_spec y N (by simp at hnl; omega)) [(0, 0), (1, 1)] rfl rfl rfl (by repeat' (first | exact True.intro | refine hpC rfl rfl rfl ?_ | refine ⟨⟨_, _, _, rfl, rfl, rfl, @WkO.rfl _⟩, ?_⟩ | refine HeapOK.acc rfl rfl ?_)) rfl rfl ?_
  refine M.go rfl ?_
  by_cases h0 : b = []
  · subst h0
    refine M.op trivial (SOp.app0 rfl rfl .tz (.inl ⟨_, _, _, _, _, rfl⟩)) ?_
    refine M.freezeO (i := 14) (el := u8P (y :: N)) rfl rfl rfl ?_
    have S := S0 hl
    rw [List.append_nil] at S ⊢
    refine M.use0 trivial S rfl rfl rfl ?_
    refine M.go rfl ?_
    exact M.ret (M.go rfl (M.done (finQ.ret [] rfl rfl rfl (by first | exact Wk.rfl | exact Wk.uncap | exact Wk.nil | exact Wk.b1 rfl | exact Wk.t2 Wk.rfl (Wk.b1 rfl)) (by repeat' (first | exact True.intro | refine hpC rfl rfl rfl ?_ | refine ⟨⟨_, _, _, rfl, rfl, rfl, @WkO.rfl _⟩, ?_⟩ | refine HeapOK.acc rfl rfl ?_)))))
  · have h1 : u8P b ≠ [] := by simpa [u8P] using h0
    refine M.op trivial (SOp.appO (ex := u8P (y :: N)) rfl rfl rfl rfl .tz h1 (by rw [u8P_len, hlb]; omega)) ?_
    rw [← u8P_app]
    refine M.freezeO (i := 14) (el := u8P ((y :: N) ++ b)) rfl rfl (by rw [u8P_app, List.length_append]) ?_
    refine M.use0 trivial (S0 hl) rfl rfl rfl ?_
    refine M.go rfl ?_
    exact M.ret (M.go rfl (M.done (finQ.ret [] rfl rfl rfl (by first | exact Wk.rfl | exact Wk.uncap | exact Wk.nil | exact Wk.b1 rfl | exact Wk.t2 Wk.rfl (Wk.b1 rfl)) (by repeat' (first | exact True.intro | refine hpC rfl rfl rfl ?_ | refine ⟨⟨_, _, _, rfl, rfl, rfl, @WkO.rfl _⟩, ?_⟩ | refine HeapOK.acc rfl rfl ?_)))))
end Go.Proofs.Ytjlfojgacnphmaa

namespace Go.Proofs.Ytjlfojgacnphmaa
open Go.RowKit Sim Go Sym
set_option maxRecDepth 100000
set_option linter.unusedVariables false
set_option linter.unusedSimpArgs false
variable {base : Nat}
def hL00 (room first en : Int) (L : FS) (lc : Nat) (F : FS) (c : Nat) : HS := ⟨[(3, some (fM F c)), (2, some (fM L lc)), (1, some (.row [.p (.int .i64 room), .mp 2, .mp 3, .p (.tz true 5 [] none)] true)), (0, some (.row [.ptr 1 0, .p (.int .i64 first), .p (.tz true 1 [] none), .p (.tz true 1 [] none), .p (.int .i64 en)] true))], 4⟩
def hL01 (a : Nat) (room first en : Int) (L : FS) (lc : Nat) (F : FS) (c : Nat) (x : PC) (X : List PC) (y : PC) (Y : List PC) : HS := ⟨[(a + 1, some (.els 1 (y :: Y))), (a, some (.els 1 (x :: X))), (3, some (fM F c)), (2, some (fM L lc)), (1, some (.row [.p (.int .i64 room), .mp 2, .mp 3, .p (.tz true 5 [] none)] true)), (0, some (.row [.ptr 1 0, .p (.int .i64 first), .acc a 1 (x :: X), .acc (a + 1) 1 (y :: Y), .p (.int .i64 en)] true))], a + 2⟩
def hL10 (b : Nat) (room first en : Int) (L : FS) (lc : Nat) (F : FS) (c : Nat) (w : PC) (W : List PC) : HS := ⟨[(b, some (.els 5 (w :: W))), (3, some (fM F c)), (2, some (fM L lc)), (1, some (.row [.p (.int .i64 room), .mp 2, .mp 3, .acc b 5 (w :: W)] true)), (0, some (.row [.ptr 1 0, .p (.int .i64 first), .p (.tz true 1 [] none), .p (.tz true 1 [] none), .p (.int .i64 en)] true))], b + 1⟩
def hL11 (b a : Nat) (room first en : Int) (L : FS) (lc : Nat) (F : FS) (c : Nat) (w : PC) (W : List PC) (x : PC) (X : List PC) (y : PC) (Y : List PC) : HS := ⟨[(a + 1, some (.els 1 (y :: Y))), (a, some (.els 1 (x :: X))), (b, some (.els 5 (w :: W))), (3, some (fM F c)), (2, some (fM L lc)), (1, some (.row [.p (.int .i64 room), .mp 2, .mp 3, .acc b 5 (w :: W)] true)), (0, some (.row [.ptr 1 0, .p (.int .i64 first), .acc a 1 (x :: X), .acc (a + 1) 1 (y :: Y), .p (.int .i64 en)] true))], a + 2⟩
noncomputable def lAdd : {F : LF // lowerF Try.prog 62 = some F} := ⟨_, rfl⟩
theorem add00_spec (room first en : Int) (L : FS) (lc : Nat) (F : FS) (c : Nat) (n : Int) (z : Bool) (b : List Int) (cb : Option Nat) (size : Int) (hb : b.length ≤ 1000000) (he : 0 ≤ en ∧ en ≤ 1000000000) (hs : 0 ≤ size ∧ size ≤ 1000000000) : CallS Try.prog base 62 [.c (.ptr 0 0), .c (.p (.int .i64 n)), .c (.p (.tz z 1 (u8P b) cb)), .c (.p (.int .i64 size))] (hL00 room (first) (en) L lc F c) (.tup []) (hL01 4 room (n) (en + size) L lc F c (fP z b none) [] (.int .i64 en) []) := by
  refine CallS.of noNG lAdd.2 rfl (M.start (M.go rfl ?_))
  refine M.cond rfl (fun _ => ?_) (fun hn => absurd (by simp) hn)
  refine M.go rfl ?_
  refine M.regG rfl (MN.go rfl ?_)
  refine MN.use0 (by first | exact True.intro | exact rfl) (bcl_spec z (u8P b) cb (by rw [u8P_len]; omega)) rfl rfl rfl (MN.go rfl ?_)
  refine MN.op rfl (by first | exact True.intro | exact rfl) (SOp.appN rfl rfl (.own rfl rfl) (by simp) (by simp)) (MN.go rfl ?_)
  refine MN.op rfl (by first | exact True.intro | exact rfl) (SOp.appN rfl rfl (.own rfl rfl) (by simp) (by simp)) (MN.go rfl ?_)
  refine MN.nil mixed (Fnl.nodup rfl) rfl ⟨⟨stepX_ok rfl, stepX_ok rfl, trivial⟩, ⟨stepX_ok rfl, stepX_ok rfl, stepX_ok rfl, trivial⟩, ⟨stepX_ok rfl, stepX_ok rfl, stepX_ok rfl, trivial⟩, trivial⟩ (M.go rfl ?_)
  rw [wr64 (n := en + size) (by omega) (by omega)]
  exact M.done (finQ.normal [(0, 0), (1, 1), (2, 2), (3, 3), (4, 30), (5, 31)] rfl rfl rfl Wk.rfl ⟨(hpX rfl rfl rfl), (hpX rfl rfl rfl), (hpX rfl rfl rfl), (hpX rfl rfl rfl), (hpX rfl rfl rfl), ⟨_, _, _, rfl, rfl, rfl, WkO.row ⟨Wk.rfl, Wk.rfl, by first | exact Wk.rfl | exact accRow (by simp) 1 _, by first | exact Wk.rfl | exact accRow (by simp) 1 _, Wk.rfl, trivial⟩⟩, trivial⟩)
theorem add01_spec (room first en : Int) (L : FS) (lc : Nat) (F : FS) (c : Nat) (x : PC) (X : List PC) (y : PC) (Y : List PC) (n : Int) (z : Bool) (b : List Int) (cb : Option Nat) (size : Int) (hX : X.length ≤ 100000) (hY : Y.length ≤ 100000) (hb : b.length ≤ 1000000) (he : 0 ≤ en ∧ en ≤ 1000000000) (hs : 0 ≤ size ∧ size ≤ 1000000000) : CallS Try.prog base 62 [.c (.ptr 0 0), .c (.p (.int .i64 n)), .c (.p (.tz z 1 (u8P b) cb)), .c (.p (.int .i64 size))] (hL01 4 room (first) (en) L lc F c x X y Y) (.tup []) (hL01 6 room (first) (en + size) L lc F c x (X ++ [fP z b none]) y (Y ++ [.int .i64 en])) := by
  refine CallS.of noNG lAdd.2 rfl (M.start (M.go rfl ?_))
  refine M.cond rfl (fun hn => absurd hn (by simp; omega)) (fun _ => ?_)
  refine M.go rfl ?_
  refine M.regG rfl (MN.go rfl ?_)
  refine MN.use0 (by first | exact True.intro | exact rfl) (bcl_spec z (u8P b) cb (by rw [u8P_len]; omega)) rfl rfl rfl (MN.go rfl ?_)
  refine MN.op rfl (by first | exact True.intro | exact rfl) (SOp.appA rfl rfl rfl (.own rfl rfl) (by simp) (by simp; omega)) (MN.go rfl ?_)
  refine MN.op rfl (by first | exact True.intro | exact rfl) (SOp.appA rfl rfl rfl (.own rfl rfl) (by simp) (by simp; omega)) (MN.go rfl ?_)
  refine MN.nil mixed (Fnl.nodup rfl) rfl ⟨⟨stepX_ok rfl, stepX_ok rfl, trivial⟩, ⟨stepX_ok rfl, stepX_ok rfl, stepX_ok rfl, trivial⟩, ⟨stepX_ok rfl, stepX_ok rfl, stepX_ok rfl, trivial⟩, trivial⟩ (M.go rfl ?_)
  rw [wr64 (n := en + size) (by omega) (by omega)]
  exact M.done (finQ.normal [(0, 0), (1, 1), (2, 2), (3, 3), (4, 4), (5, 5), (6, 32), (7, 33)] rfl rfl rfl Wk.rfl ⟨(hpX rfl rfl rfl), (hpX rfl rfl rfl), (hpX rfl rfl rfl), (hpX rfl rfl rfl), (hpX rfl rfl rfl), ⟨_, _, _, rfl, rfl, rfl, WkO.row ⟨Wk.rfl, Wk.rfl, by first | exact Wk.rfl | exact accRow (by simp) 1 _, by first | exact Wk.rfl | exact accRow (by simp) 1 _, Wk.rfl, trivial⟩⟩, trivial⟩)
theorem add10_spec (room first en : Int) (L : FS) (lc : Nat) (F : FS) (c : Nat) (w : PC) (W : List PC) (n : Int) (z : Bool) (b : List Int) (cb : Option Nat) (size : Int) (hb : b.length ≤ 1000000) (he : 0 ≤ en ∧ en ≤ 1000000000) (hs : 0 ≤ size ∧ size ≤ 1000000000) : CallS Try.prog base 62 [.c (.ptr 0 0), .c (.p (.int .i64 n)), .c (.p (.tz z 1 (u8P b) cb)), .c (.p (.int .i64 size))] (hL10 4 room (first) (en) L lc F c w W) (.tup []) (hL11 4 5 room (n) (en + size) L lc F c w W (fP z b none) [] (.int .i64 en) []) := by
  refine CallS.of noNG lAdd.2 rfl (M.start (M.go rfl ?_))
  refine M.cond rfl (fun _ => ?_) (fun hn => absurd (by simp) hn)
  refine M.go rfl ?_
  refine M.regG rfl (MN.go rfl ?_)
  refine MN.use0 (by first | exact True.intro | exact rfl) (bcl_spec z (u8P b) cb (by rw [u8P_len]; omega)) rfl rfl rfl (MN.go rfl ?_)
  refine MN.op rfl (by first | exact True.intro | exact rfl) (SOp.appN rfl rfl (.own rfl rfl) (by simp) (by simp)) (MN.go rfl ?_)
  refine MN.op rfl (by first | exact True.intro | exact rfl) (SOp.appN rfl rfl (.own rfl rfl) (by simp) (by simp)) (MN.go rfl ?_)
  refine MN.nil mixed (Fnl.nodup rfl) rfl ⟨⟨stepX_ok rfl, stepX_ok rfl, trivial⟩, ⟨stepX_ok rfl, stepX_ok rfl, stepX_ok rfl, trivial⟩, ⟨stepX_ok rfl, stepX_ok rfl, stepX_ok rfl, trivial⟩, trivial⟩ (M.go rfl ?_)
  rw [wr64 (n := en + size) (by omega) (by omega)]
  exact M.done (finQ.normal [(0, 0), (1, 1), (2, 2), (3, 3), (4, 4), (5, 31), (6, 32)] rfl rfl rfl Wk.rfl ⟨(hpX rfl rfl rfl), (hpX rfl rfl rfl), (hpX rfl rfl rfl), (hpX rfl rfl rfl), (hpX rfl rfl rfl), (hpX rfl rfl rfl), ⟨_, _, _, rfl, rfl, rfl, WkO.row ⟨Wk.rfl, Wk.rfl, by first | exact Wk.rfl | exact accRow (by simp) 1 _, by first | exact Wk.rfl | exact accRow (by simp) 1 _, Wk.rfl, trivial⟩⟩, trivial⟩)
end Go.Proofs.Ytjlfojgacnphmaa

namespace Go.Proofs.Ytjlfojgacnphmaa
open Go.RowKit Sim Go Sym
set_option maxRecDepth 100000
set_option linter.unusedVariables false
set_option linter.unusedSimpArgs false
variable {base : Nat}
theorem may_w : CallS Try.prog base 70 [.c (.p (.str [119]))] ⟨[], 0⟩ (.c (.p (.bool true))) ⟨[], 0⟩ := CallS.reck (m := 200) (h' := noMem) mixed noNG (by kernel_rfl)
noncomputable def lWla : {F : LF // lowerF Try.prog 24 = some F} := ⟨_, rfl⟩
noncomputable def lWap : {F : LF // lowerF Try.prog 21 = some F} := ⟨_, rfl⟩
theorem last00_spec (room first en : Int) (L : FS) (lc : Nat) (F : FS) (c : Nat) : CallS Try.prog base 24 [.c (.ptr 0 0)] (hL00 room (first) (en) L lc F c) (.c (.p (.int .i64 0))) (hL00 room (first) (en) L lc F c) := by
  refine CallS.of noNG lWla.2 rfl (M.start (M.go rfl ?_))
  refine M.cond rfl (fun _ => ?_) (fun hn => absurd (by simp) hn)
  refine M.go rfl ?_
  exact M.ret (M.go rfl (M.done (finQ.ret [(0, 0), (1, 1), (2, 2), (3, 3)] rfl rfl rfl (by first | exact Wk.rfl | exact Wk.uncap | exact Wk.nil | exact Wk.b1 rfl | exact Wk.t2 Wk.rfl (Wk.b1 rfl)) (by repeat' (first | exact True.intro | refine hpC rfl rfl rfl ?_ | refine ⟨⟨_, _, _, rfl, rfl, rfl, @WkO.rfl _⟩, ?_⟩ | refine HeapOK.acc rfl rfl ?_)))))
theorem last01_spec (room first en : Int) (L : FS) (lc : Nat) (F : FS) (c : Nat) (x : PC) (X : List PC) (y : PC) (Y : List PC) (hX : X.length ≤ 100000) (hf : 0 ≤ first ∧ first ≤ 2000000000000000) : CallS Try.prog base 24 [.c (.ptr 0 0)] (hL01 4 room (first) (en) L lc F c x X y Y) (.c (.p (.int .i64 (first + X.length)))) (hL01 4 room (first) (en) L lc F c x X y Y) := by
  refine CallS.of noNG lWla.2 rfl (M.start (M.go rfl ?_))
  refine M.cond rfl (fun hn => absurd hn (by simp; omega)) (fun _ => ?_)
  refine M.go rfl ?_
  refine M.regD (MD.go rfl ?_)
  refine MD.nil mixed (Fnl.nodup rfl) (M.go rfl ?_)
  rw [show ((x :: X).length : Int) = (X.length : Int) + 1 by simp, wr64 (n := first + ((X.length : Int) + 1)) (by omega) (by omega), show first + ((X.length : Int) + 1) - 1 = first + X.length by omega, wr64 (n := first + (X.length : Int)) (by omega) (by omega)]
  exact M.ret (M.go rfl (M.done (finQ.ret [(0, 0), (1, 1), (2, 2), (3, 3), (4, 4), (5, 5)] rfl rfl rfl (by first | exact Wk.rfl | exact Wk.uncap | exact Wk.nil | exact Wk.b1 rfl | exact Wk.t2 Wk.rfl (Wk.b1 rfl)) (by repeat' (first | exact True.intro | refine hpC rfl rfl rfl ?_ | refine ⟨⟨_, _, _, rfl, rfl, rfl, @WkO.rfl _⟩, ?_⟩ | refine HeapOK.acc rfl rfl ?_)))))
theorem last10_spec (room first en : Int) (L : FS) (lc : Nat) (F : FS) (c : Nat) (w : PC) (W : List PC) : CallS Try.prog base 24 [.c (.ptr 0 0)] (hL10 4 room (first) (en) L lc F c w W) (.c (.p (.int .i64 0))) (hL10 4 room (first) (en) L lc F c w W) := by
  refine CallS.of noNG lWla.2 rfl (M.start (M.go rfl ?_))
  refine M.cond rfl (fun _ => ?_) (fun hn => absurd (by simp) hn)
  refine M.go rfl ?_
  exact M.ret (M.go rfl (M.done (finQ.ret [(0, 0), (1, 1), (2, 2), (3, 3), (4, 4)] rfl rfl rfl (by first | exact Wk.rfl | exact Wk.uncap | exact Wk.nil | exact Wk.b1 rfl | exact Wk.t2 Wk.rfl (Wk.b1 rfl)) (by repeat' (first | exact True.intro | refine hpC rfl rfl rfl ?_ | refine ⟨⟨_, _, _, rfl, rfl, rfl, @WkO.rfl _⟩, ?_⟩ | refine HeapOK.acc rfl rfl ?_)))))
theorem wappend00_spec (room first en : Int) (L : FS) (lc : Nat) (F : FS) (c : Nat) (n : Int) (hn1 : 1 ≤ n ∧ n ≤ 2000000000000000) (z : Bool) (b : List Int) (cb : Option Nat) (hB : Bytes b) (hb : b.length ≤ 30000) (he : 0 ≤ en ∧ en ≤ 1000000000) (hF : FOK F c) (hr : room ≤ 100000000000) (hroom : ((usedN F + (sealB (recB n b)).length : Nat) : Int) ≤ room) (hfile : (findP [119] F).isSome = true ∨ F.length < 64) (F2 : FS) (c2 : Nat)
    (hdo : CallS Try.prog base 66 [.c (.mp 0), .agg ((chX 0 [119] [] (fP false (sealB (recB n b)) none) 0).map XC.p), .c (.p (.int .i64 (sealB (recB n b)).length))] ⟨[(0, some (fM F c))], 1⟩ (.tup []) ⟨[(0, some (fM F2 c2))], 1⟩) :
    CallS Try.prog base 21 [.c (.ptr 0 0), .c (.p (.int .i64 n)), .c (.p (.tz z 1 (u8P b) cb))] (hL00 room (first) (en) L lc F c) (.c (.p (.int .i64 0))) (hL11 4 5 room n (en + (sealB (recB n b)).length) L lc F2 c2 (.agg (chX 0 [119] [] (fP false (sealB (recB n b)) none) 0)) [] (fP z b none) [] (.int .i64 en) []) := by
  have hlb : (u8P b).length = b.length := u8P_len b
  have hnB := numB_len (n := n) (by omega) (by omega)
  have hrl : (recB n b).length ≤ 65536 := by simp [recB]; omega
  have hsl : (sealB (recB n b)).length = 8 + (recB n b).length := seal_len hrl
  have hsl2 : (sealB (recB n b)).length ≤ 40000 := by rw [hsl]; simp [recB]; omega
  refine CallS.of noNG lWap.2 rfl (M.start (M.go rfl ?_))
  refine M.dec rfl (fun hn => absurd hn (by omega)) (fun _ => ?_)
  refine M.go rfl ?_
  refine M.dec rfl (fun hn => absurd hn (by simp)) (fun _ => ?_)
  refine M.go rfl ?_
  refine M.cond rfl (fun hn => absurd hn (by rw [hlb]; omega)) (fun _ => ?_)
  refine M.go rfl ?_
  refine M.use0 trivial (wseal_spec n ⟨by omega, by omega⟩ z b cb hB hrl) rfl rfl rfl ?_
  refine M.go rfl ?_
  refine M.use trivial (append0_spec room L lc F c [119] false (sealB (recB n b)) none may_w hF hr hroom hfile F2 c2 hdo) [(0, 1), (1, 2), (2, 3)] rfl rfl rfl (by repeat' (first | exact True.intro | refine hpC rfl rfl rfl ?_ | refine ⟨⟨_, _, _, rfl, rfl, rfl, @WkO.rfl _⟩, ?_⟩ | refine HeapOK.acc rfl rfl ?_)) rfl rfl ?_
  refine M.go rfl ?_
  refine M.condN rfl (fun hn => absurd rfl hn) (fun _ => ?_)
  refine M.go rfl ?_
  rw [u8P_len]
  refine M.use trivial (add10_spec room first en L lc F2 c2 (.agg (chX 0 [119] [] (fP false (sealB (recB n b)) none) 0)) [] n z b cb ((sealB (recB n b)).length : Int) (by omega) he ⟨by omega, by omega⟩) [(0, 0), (1, 1), (2, 2), (3, 3), (4, 4)] rfl rfl rfl (by repeat' (first | exact True.intro | refine hpC rfl rfl rfl ?_ | refine ⟨⟨_, _, _, rfl, rfl, rfl, @WkO.rfl _⟩, ?_⟩ | refine HeapOK.acc rfl rfl ?_)) rfl rfl ?_
  refine M.go rfl ?_
  exact M.ret (M.go rfl (M.done (finQ.ret [(0, 0), (1, 1), (2, 2), (3, 3), (4, 4), (5, 5), (6, 6)] rfl rfl rfl (by first | exact Wk.rfl | exact Wk.uncap | exact Wk.nil | exact Wk.b1 rfl | exact Wk.t2 Wk.rfl (Wk.b1 rfl)) (by repeat' (first | exact True.intro | refine hpC rfl rfl rfl ?_ | refine ⟨⟨_, _, _, rfl, rfl, rfl, @WkO.rfl _⟩, ?_⟩ | refine HeapOK.acc rfl rfl ?_)))))
end Go.Proofs.Ytjlfojgacnphmaa

namespace Go.Proofs.Ytjlfojgacnphmaa
open Go.RowKit Sim Go Sym
set_option maxRecDepth 100000
set_option linter.unusedVariables false
set_option linter.unusedSimpArgs false
variable {base : Nat}
def flatR : Int → List (List Int) → List Int
  | _, [] => []
  | f, b :: R => sealB (recB f b) ++ flatR (f + 1) R
def recsR : Int → List (List Int) → List (List Int)
  | _, [] => []
  | f, b :: R => recB f b :: recsR (f + 1) R
structure RecOK (f : Int) (R : List (List Int)) : Prop where
  f : 1 ≤ f ∧ f + R.length ≤ 1200000000000000
  l : R.length ≤ 10000
  b : ∀ b ∈ R, Bytes b ∧ b.length ≤ 30000
theorem RecOK.tail {f : Int} {b : List Int} {R : List (List Int)} (h : RecOK f (b :: R)) : RecOK (f + 1) R := ⟨⟨by have := h.f; omega, by have := h.f.2; simp only [List.length_cons] at this; omega⟩, by have := h.l; simp at this; omega, fun c hc => h.b c (by simp [hc])⟩
theorem recB_len {n : Int} {b : List Int} (h1 : 1 ≤ n) (h2 : n ≤ 2000000000000000) (hb : b.length ≤ 30000) : (recB n b).length ≤ 30010 ∧ b.length + 1 ≤ (recB n b).length := by
  have := numB_len (n := n) (by omega) (by omega)
  have := numB_pos n
  simp [recB]; omega
theorem recB_bytes {n : Int} {b : List Int} (h : Bytes b) : Bytes (recB n b) := (numB_bytes n).app h
theorem scan_flat : ∀ (R : List (List Int)) (f : Int), RecOK f R → scan (flatR f R) = (recsR f R, (flatR f R).length)
  | [], f, _ => rfl
  | b :: R, f, h => by
    have hb := h.b b (by simp)
    have hl := recB_len (n := f) h.f.1 (by have := h.f.2; simp only [List.length_cons] at this; omega) hb.2
    have h1 : firstB (flatR f (b :: R)) = some (recB f b) := first_seal (by omega) _
    have hs := seal_len (xs := recB f b) (by omega)
    rw [scan_some h1]
    have hd : (flatR f (b :: R)).drop (8 + (recB f b).length) = flatR (f + 1) R := List.drop_left' hs
    rw [hd, scan_flat R (f + 1) h.tail]
    simp only [flatR, recsR, List.length_append, hs]
theorem flatR_bytes : ∀ (R : List (List Int)) (f : Int), RecOK f R → Bytes (flatR f R)
  | [], f, _ => Bytes.nil
  | b :: R, f, h => (seal_bytes (recB_bytes (h.b b (by simp)).1)).app (flatR_bytes R (f + 1) h.tail)
theorem flatR_app : ∀ (R : List (List Int)) (f : Int) (b : List Int), flatR f (R ++ [b]) = flatR f R ++ sealB (recB (f + R.length) b)
  | [], f, b => by simp [flatR]
  | c :: R, f, b => by
    have := flatR_app R (f + 1) b
    simp only [List.cons_append, flatR, this, List.append_assoc, List.length_cons]
    rw [show f + 1 + (R.length : Int) = f + ((R.length + 1 : Nat) : Int) by omega]
theorem recsR_at : ∀ (R : List (List Int)) (f : Int) (pre : List (List Int)) (b : List Int) (rest : List (List Int)), R = pre ++ b :: rest → (recsR f R)[pre.length]? = some (recB (f + pre.length) b)
  | _, f, [], b, rest, h => by subst h; simp [recsR]
  | _, f, c :: pre, b, rest, h => by
    subst h
    have := recsR_at (pre ++ b :: rest) (f + 1) pre b rest rfl
    simp only [List.cons_append, recsR, List.length_cons, List.getElem?_cons_succ, this]
    rw [show f + 1 + (pre.length : Int) = f + ((pre.length + 1 : Nat) : Int) by omega]
theorem recsR_len : ∀ (R : List (List Int)) (f : Int), (recsR f R).length = R.length
  | [], _ => rfl
  | b :: R, f => by simp [recsR, recsR_len R (f + 1)]
theorem remove0_none (room : Int) (L : FS) (lc : Nat) (F : FS) (c : Nat) (name : List Nat) (hf : findP name F = none) : CallS Try.prog base 40 [.c (.ptr 0 0), .c (.p (.str name))] (hD0 room L lc F c) (.c (.p (.int .i64 14))) (hD0 room L lc F c) := by
  refine CallS.of noNG lDRm.2 rfl (M.start (M.go rfl ?_))
  refine M.use trivial (there0_spec room L lc F c name) [(0, 0), (1, 1), (2, 2)] rfl rfl rfl (by repeat' (first | exact True.intro | refine hpC rfl rfl rfl ?_ | refine ⟨⟨_, _, _, rfl, rfl, rfl, @WkO.rfl _⟩, ?_⟩ | refine HeapOK.acc rfl rfl ?_)) rfl rfl ?_
  rw [hf]
  refine M.go rfl ?_
  refine M.condB rfl (fun _ => ?_) (fun hn => by cases hn)
  refine M.go rfl ?_
  exact M.ret (M.go rfl (M.done (finQ.ret [(0, 0), (1, 1), (2, 2)] rfl rfl rfl (by first | exact Wk.rfl | exact Wk.uncap | exact Wk.nil | exact Wk.b1 rfl | exact Wk.t2 Wk.rfl (Wk.b1 rfl)) (by repeat' (first | exact True.intro | refine hpC rfl rfl rfl ?_ | refine ⟨⟨_, _, _, rfl, rfl, rfl, @WkO.rfl _⟩, ?_⟩ | refine HeapOK.acc rfl rfl ?_)))))
theorem read0_none (room : Int) (L : FS) (lc : Nat) (F : FS) (c : Nat) (name : List Nat) (hf : findP name F = none) : CallS Try.prog base 36 [.c (.ptr 0 0), .c (.p (.str name))] (hD0 room L lc F c) (.tup [.c (.p (.tz true 1 [] none)), .c (.p (.bool false))]) (hD0 room L lc F c) := by
  refine CallS.of noNG lDRd.2 rfl (M.start (M.wkH (b0 := 2) rfl rfl (WkO.pmap KD.str) (M.go rfl ?_)))
  refine M.op trivial (SOp.look (a := name) KD.str rfl rfl rfl) ?_
  rw [findK_pv, hf]
  refine M.go rfl ?_
  refine M.wkO (i := 19) (v' := .c (.p (.tz true 1 [] none))) rfl Wk.nil ?_
  refine M.use0 trivial (bcl_spec true [] none (by decide)) rfl rfl rfl ?_
  refine M.go rfl ?_
  exact M.ret (M.go rfl (M.done (finQ.ret [(0, 0), (1, 1), (2, 2)] rfl rfl rfl (Wk.of rfl) ⟨⟨_, _, _, rfl, rfl, rfl, WkO.mapp KD.str⟩, (hpX rfl rfl rfl), (hpX rfl rfl rfl), trivial⟩)))
noncomputable def lWop : {F : LF // lowerF Try.prog 20 = some F} := ⟨_, rfl⟩
def hO0 (room first en : Int) (L : FS) (lc : Nat) (F : FS) (c : Nat) : HS := ⟨[(3, some (.row [.ptr 0 0, .p (.int .i64 first), .p (.tz true 1 [] none), .p (.tz true 1 [] none), .p (.int .i64 en)] true)), (2, some (fM F c)), (1, some (fM L lc)), (0, some (.row [.p (.int .i64 room), .mp 1, .mp 2, .p (.tz true 5 [] none)] true))], 4⟩
def frN : List Nat := [119, 110, 101, 119]
theorem wopen_empty (room : Int) (L : FS) (lc : Nat) (F : FS) (c : Nat) (h1 : findP frN F = none) (h2 : findP [119] F = none) : CallS Try.prog base 20 [.c (.ptr 0 0)] (hD0 room L lc F c) (.tup [.c (.ptr 3 0), .c (.p (.int .i64 0))]) (hO0 room 0 0 L lc F c) := by
  refine CallS.of noNG lWop.2 rfl (M.start (M.go rfl ?_))
  refine M.use trivial (remove0_none room L lc F c frN h1) [(0, 0), (1, 1), (2, 2)] rfl rfl rfl (by repeat' (first | exact True.intro | refine hpC rfl rfl rfl ?_ | refine ⟨⟨_, _, _, rfl, rfl, rfl, @WkO.rfl _⟩, ?_⟩ | refine HeapOK.acc rfl rfl ?_)) rfl rfl ?_
  refine M.go rfl ?_
  refine M.use trivial (read0_none room L lc F c [119] h2) [(0, 0), (1, 1), (2, 2)] rfl rfl rfl (by repeat' (first | exact True.intro | refine hpC rfl rfl rfl ?_ | refine ⟨⟨_, _, _, rfl, rfl, rfl, @WkO.rfl _⟩, ?_⟩ | refine HeapOK.acc rfl rfl ?_)) rfl rfl ?_
  refine M.go rfl ?_
  refine M.use0 trivial (scan_spec true [] none Bytes.nil (by decide)) rfl rfl rfl ?_
  refine M.go rfl ?_
  refine M.loop (M.round (M.go rfl ?_))
  refine M.cond rfl (fun hn => absurd hn (by decide)) (fun _ => ?_)
  refine M.exit (M.go rfl (M.done (M.q (M.go rfl ?_))))
  exact M.ret (M.go rfl (M.done (finQ.ret [(0, 0), (1, 1), (2, 2), (3, 3)] rfl rfl rfl (Wk.of rfl) ⟨⟨_, _, _, rfl, rfl, rfl, WkO.row ⟨Wk.rfl, Wk.rfl, Wk.nil, Wk.nil, Wk.rfl, trivial⟩⟩, (hpX rfl rfl rfl), (hpX rfl rfl rfl), (hpX rfl rfl rfl), trivial⟩)))
end Go.Proofs.Ytjlfojgacnphmaa

namespace Go.Proofs.Ytjlfojgacnphmaa
open Go.RowKit Sim Go Sym
set_option maxRecDepth 100000
set_option linter.unusedVariables false
set_option linter.unusedSimpArgs false
variable {base : Nat}
def hO1 (room first en : Int) (L : FS) (lc : Nat) (F : FS) (c : Nat) (x : PC) (X : List PC) (y : PC) (Y : List PC) : HS := ⟨[(5, some (.els 1 (y :: Y))), (4, some (.els 1 (x :: X))), (3, some (.row [.ptr 0 0, .p (.int .i64 first), .acc 4 1 (x :: X), .acc 5 1 (y :: Y), .p (.int .i64 en)] true)), (2, some (fM F c)), (1, some (fM L lc)), (0, some (.row [.p (.int .i64 room), .mp 1, .mp 2, .p (.tz true 5 [] none)] true))], 6⟩
def rcP (b : List Int) : PC := fP false b none
def rcsP (R : List (List Int)) : List PC := R.map rcP
theorem num_rec {n : Int} (hn : InI64 n) (b : List Int) : (RS.num ⟨false, recB n b, false⟩) = (n, ⟨false, b, false⟩) := by
  have := rnum_numB hn.1 hn.2 b
  unfold RS.num
  rw [show (⟨false, recB n b, false⟩ : RS).xs = numB n ++ b from rfl, this]
def opE (B : List Int) (zb : Bool) : Env := [(0, .c (.ptr 0 0)), (4, .c (.ptr 3 0)), (5, .c (.p (.tz zb 1 (u8P B) none))), (6, .c (.p (.bool true)))]
theorem flatR_len : ∀ (R : List (List Int)) (f : Int), RecOK f R → (flatR f R).length ≤ 31000 * R.length
  | [], _, _ => by simp [flatR]
  | b :: R, f, h => by
    have h1 := h.b b (by simp)
    have h2 := recB_len (n := f) h.f.1 (by have := h.f.2; omega) h1.2
    have h3 := seal_len (xs := recB f b) (by omega)
    have h4 := flatR_len R (f + 1) h.tail
    simp only [flatR, List.length_append, List.length_cons]
    omega
def posR : Int → Int → List (List Int) → List PC
  | _, _, [] => []
  | E, f, b :: R => .int .i64 E :: posR (E + (sealB (recB f b)).length) (f + 1) R
theorem posR_app : ∀ (R : List (List Int)) (E f : Int) (b : List Int), posR E f (R ++ [b]) = posR E f R ++ [.int .i64 (E + (flatR f R).length)]
  | [], E, f, b => by simp [posR, flatR]
  | c :: R, E, f, b => by
    have := posR_app R (E + (sealB (recB f c)).length) (f + 1) b
    simp only [List.cons_append, posR, this, flatR, List.length_append]
    rw [show E + ((sealB (recB f c)).length : Int) + ((flatR (f + 1) R).length : Int) = E + (((sealB (recB f c)).length + (flatR (f + 1) R).length : Nat) : Int) by omega]
theorem posR_len : ∀ (R : List (List Int)) (E f : Int), (posR E f R).length = R.length
  | [], _, _ => rfl
  | b :: R, E, f => by simp [posR, posR_len R]
def yP (b0 : List Int) (f : Int) (pr : List (List Int)) : List PC := posR ((sealB (recB f b0)).length : Nat) (f + 1) pr
theorem yP_app (b0 : List Int) (f : Int) (pr : List (List Int)) (b : List Int) : yP b0 f (pr ++ [b]) = yP b0 f pr ++ [.int .i64 ((flatR f (b0 :: pr)).length : Nat)] := by
  rw [yP, posR_app, yP, flatR, List.length_append]
  rw [show (((sealB (recB f b0)).length : Nat) : Int) + ((flatR (f + 1) pr).length : Int) = (((sealB (recB f b0)).length + (flatR (f + 1) pr).length : Nat) : Int) by omega]
theorem yP_len (b0 : List Int) (f : Int) (pr : List (List Int)) : (yP b0 f pr).length = pr.length := posR_len _ _ _
theorem open_loop (room : Int) (L : FS) (lc : Nat) (F : FS) (c : Nat) (B : List Int) (zb : Bool) (f : Int) (R : List (List Int)) (h : RecOK f R) (Q : QX) (hq : ∀ b0 pr, R = b0 :: pr → Q (.exit 0) (opE B zb) (hO1 room f ((flatR f R).length : Nat) L lc F c (rcP b0) (rcsP pr) (.int .i64 0) (yP b0 f pr))) :
    ∀ (rest : List (List Int)) (b0 : List Int) (pr : List (List Int)), R = (b0 :: pr) ++ rest → XH Try.prog base lWop.1.n 3 (lWop.1.c.lp 0) (opE B zb ++ [(31, .c (.p (.tz true 1 (sksP (recsR f R)) none))), (32, .c (.p (.int .i64 R.length))), (33, .c (.p (.int .i64 (b0 :: pr).length)))]) (hO1 room f ((flatR f (b0 :: pr)).length : Nat) L lc F c (rcP b0) (rcsP pr) (.int .i64 0) (yP b0 f pr)) Q := by
  have hsl : (sksP (recsR f R)).length = R.length := by simp [sksP, recsR_len]
  intro rest
  induction rest with
  | nil =>
    intro b0 pr hp
    rw [List.append_nil] at hp
    have hq' := hq b0 pr hp
    rw [hp] at hq'
    have hlen : R.length = (b0 :: pr).length := by rw [hp]
    refine M.round (M.go rfl ?_)
    refine M.cond rfl (fun hn => absurd hn (by omega)) (fun _ => ?_)
    refine M.ren [(0, 0), (1, 1), (2, 2), (3, 3), (4, 4), (5, 5)] ?_ trivial rfl (by repeat' (first | exact True.intro | refine evC rfl rfl Wk.rfl ?_ | refine evC (accV_ren rfl) rfl Wk.rfl ?_ | refine evC (accV_ren rfl) rfl Wk.acc0 ?_ | refine evC rfl rfl Wk.uncap ?_ | refine evC rfl rfl Wk.nil ?_)) (by repeat' (first | exact True.intro | refine hpC rfl rfl rfl ?_ | refine ⟨⟨_, _, _, rfl, rfl, rfl, @WkO.rfl _⟩, ?_⟩ | refine HeapOK.acc rfl rfl ?_)) (e' := opE B zb) (h' := hO1 room f ((flatR f (b0 :: pr)).length : Nat) L lc F c (rcP b0) (rcsP pr) (.int .i64 0) (yP b0 f pr))
    exact M.exit (M.go rfl (M.done hq'))
  | cons b rest ih =>
    intro b0 pr hp
    have hY := yP_len b0 f pr
    have hya := yP_app b0 f pr b
    have hlen : R.length = (b0 :: pr).length + (rest.length + 1) := by rw [hp]; simp; omega
    obtain ⟨j, hj⟩ : ∃ j, j = (b0 :: pr).length := ⟨_, rfl⟩
    have hj2 : j = pr.length + 1 := hj
    obtain ⟨n, hn⟩ : ∃ n : Int, n = f + j := ⟨_, rfl⟩
    have hRl := h.l
    have hf := h.f
    have hbb := h.b b (by rw [hp]; simp)
    have hl := recB_len (n := n) (b := b) (by omega) (by omega) hbb.2
    have hBs := recB_bytes (n := n) hbb.1
    have hn64 : InI64 n := ⟨by omega, by omega⟩
    have hnum := num_rec hn64 b
    have hat := recsR_at R f (b0 :: pr) b rest hp
    rw [← hj, ← hn] at hat
    have hu : (sksP (recsR f R))[((j : Int)).toNat]? = some (skP (recB n b)) := by rw [show ((j : Int)).toNat = j by omega, sksP, List.getElem?_map, hat]; rfl
    have hw2 : IntKind.i64.wrap ((j : Int) + 1) = ((j + 1 : Nat) : Int) := by rw [wr64 (by omega) (by omega)]; omega
    have hrok : (⟨false, recB n b, false⟩ : RS).ok := ⟨by show (recB n b).length ≤ _; omega, hBs, fun e => (by cases e), fun e => (by cases e)⟩
    have hrn := rnum_spec (base := base) ⟨false, recB n b, false⟩ hrok
    rw [hnum] at hrn
    have hfl : flatR f (b0 :: pr ++ [b]) = flatR f (b0 :: pr) ++ sealB (recB n b) := by rw [flatR_app, ← hj, ← hn]
    have hsn := seal_len (xs := recB n b) (by omega)
    have hfle := flatR_len (b0 :: pr) f ⟨⟨hf.1, by rw [hlen] at hf; omega⟩, by omega, fun c hc => h.b c (by rw [hp]; exact List.mem_append_left _ hc)⟩
    rw [← hj] at hfle ⊢
    have ih' := ih b0 (pr ++ [b])
    rw [show b0 :: (pr ++ [b]) = b0 :: pr ++ [b] from rfl, hfl, show (b0 :: pr ++ [b]).length = j + 1 by rw [hj]; simp, show (flatR f (b0 :: pr) ++ sealB (recB n b)).length = (flatR f (b0 :: pr)).length + (sealB (recB n b)).length from List.length_append] at ih'
    obtain ⟨E, hE⟩ : ∃ E, E = (flatR f (b0 :: pr)).length := ⟨_, rfl⟩
    rw [hya] at ih'
    rw [← hE] at ih' hfle ⊢
    generalize yP b0 f pr = Y at *
    generalize hy0 : PC.int .i64 (0 : Int) = y at *
    refine M.round (M.go rfl ?_)
    refine M.cond rfl (fun _ => ?_) (fun hn => absurd (by omega) hn)
    refine M.go rfl ?_
    refine M.op trivial (SOp.ia rfl rfl (by omega) hu) ?_
    refine M.op trivial (SOp.ld1e rfl hu rfl rfl rfl) ?_
    refine M.go rfl ?_
    refine M.use trivial (rread_spec false (recB n b) none (by omega)) [] rfl rfl rfl trivial rfl rfl ?_
    refine M.go rfl ?_
    refine M.use trivial hrn [(0, 6)] rfl rfl rfl (by repeat' (first | exact True.intro | refine hpC rfl rfl rfl ?_ | refine ⟨⟨_, _, _, rfl, rfl, rfl, @WkO.rfl _⟩, ?_⟩ | refine HeapOK.acc rfl rfl ?_)) rfl rfl ?_
    refine M.go rfl ?_
    refine M.use trivial (rleft_spec ⟨false, b, false⟩) [(0, 6)] rfl rfl rfl (by repeat' (first | exact True.intro | refine hpC rfl rfl rfl ?_ | refine ⟨⟨_, _, _, rfl, rfl, rfl, @WkO.rfl _⟩, ?_⟩ | refine HeapOK.acc rfl rfl ?_)) rfl rfl ?_
    refine M.go rfl ?_
    rw [u8P_len]
    have hdr : (recB n b).drop ((recB n b).length - b.length) = b := by rw [recB, List.length_append, Nat.add_sub_cancel]; exact List.drop_left' rfl
    rw [wr64 (n := ((recB n b).length : Int) - (b.length : Int)) (by omega) (by omega)]
    refine M.op trivial (SOp.sl (l := (recB n b).length - b.length) (r := (recB n b).length) rfl ⟨_, _, rfl, by omega, by omega⟩ (u8P_len _).symm (by omega) (by rw [u8P_len]; omega)) ?_
    rw [u8P_drop, hdr, List.take_of_length_le (by rw [u8P_len]; omega)]
    refine M.go rfl ?_
    refine M.use trivial (rok_spec ⟨false, b, false⟩) [(0, 6)] rfl rfl rfl (by repeat' (first | exact True.intro | refine hpC rfl rfl rfl ?_ | refine ⟨⟨_, _, _, rfl, rfl, rfl, @WkO.rfl _⟩, ?_⟩ | refine HeapOK.acc rfl rfl ?_)) rfl rfl ?_
    refine M.go rfl ?_
    refine M.decB rfl (fun hn => by cases hn) (fun _ => ?_)
    refine M.go rfl ?_
    refine M.dec rfl (fun hn => absurd hn (by omega)) (fun _ => ?_)
    refine M.go rfl ?_
    refine M.dec rfl (fun hn => absurd hn (by rw [u8P_len]; omega)) (fun _ => ?_)
    refine M.go rfl ?_
    refine M.dec rfl (fun _ => ?_) (fun hn => absurd (by simp) hn)
    refine M.go rfl ?_
    have hXl : (rcsP pr).length = pr.length := by simp [rcsP]
    refine M.use (by first | exact True.intro | exact rfl) (last01_spec room f (E : Int) L lc F c (rcP b0) (rcsP pr) y Y (by omega) ⟨by omega, by omega⟩) [(0, 3), (1, 0), (2, 1), (3, 2), (4, 4), (5, 5)] rfl rfl rfl (by repeat' (first | exact True.intro | refine hpC rfl rfl rfl ?_ | refine ⟨⟨_, _, _, rfl, rfl, rfl, @WkO.rfl _⟩, ?_⟩ | refine HeapOK.acc rfl rfl ?_)) rfl rfl ?_
    refine M.go rfl ?_
    rw [hXl, wr64 (n := f + (pr.length : Int) + 1) (by omega) (by omega)]
    refine M.condN rfl (fun hn' => absurd (by omega) hn') (fun _ => ?_)
    refine M.go rfl ?_
    refine M.use0 trivial (sealS_yes false none (recB n b) hBs (by omega)) rfl rfl rfl ?_
    refine M.go rfl ?_
    rw [u8P_len]
    refine M.use trivial (add01_spec room f (E : Int) L lc F c (rcP b0) (rcsP pr) y Y n false b none ((sealB (recB n b)).length : Int) (by omega) (by omega) (by omega) ⟨by omega, by omega⟩ ⟨by omega, by omega⟩) [(0, 3), (1, 0), (2, 1), (3, 2), (4, 4), (5, 5)] rfl rfl rfl (by repeat' (first | exact True.intro | refine hpC rfl rfl rfl ?_ | refine ⟨⟨_, _, _, rfl, rfl, rfl, @WkO.rfl _⟩, ?_⟩ | refine HeapOK.acc rfl rfl ?_)) rfl rfl ?_
    refine M.go rfl ?_
    rw [hw2, show (E : Int) + ((sealB (recB n b)).length : Int) = ((E + (sealB (recB n b)).length : Nat) : Int) by omega, show rcsP pr ++ [fP false b none] = rcsP (pr ++ [b]) by simp [rcsP, rcP]]
    exact M.again (XH.ren [(0, 0), (1, 1), (2, 2), (3, 3), (4, 7), (5, 8)] (ih' (by rw [hp]; simp)) rfl (by repeat' (first | exact True.intro | refine evC rfl rfl Wk.rfl ?_ | refine evC (accV_ren rfl) rfl Wk.rfl ?_ | refine evC (accV_ren rfl) rfl Wk.acc0 ?_ | refine evC rfl rfl Wk.uncap ?_ | refine evC rfl rfl Wk.nil ?_)) (by repeat' (first | exact True.intro | refine hpC rfl rfl rfl ?_ | refine ⟨⟨_, _, _, rfl, rfl, rfl, @WkO.rfl _⟩, ?_⟩ | refine HeapOK.acc rfl rfl ?_)))
end Go.Proofs.Ytjlfojgacnphmaa

namespace Go.Proofs.Ytjlfojgacnphmaa
open Go.RowKit Sim Go Sym
set_option maxRecDepth 100000
set_option linter.unusedVariables false
set_option linter.unusedSimpArgs false
variable {base : Nat}
noncomputable def lWsy : {F : LF // lowerF Try.prog 22 = some F} := ⟨_, rfl⟩
end Go.Proofs.Ytjlfojgacnphmaa

namespace Go.Proofs.Ytjlfojgacnphmaa
open Go.RowKit Sim Go Sym
set_option maxRecDepth 100000
set_option linter.unusedVariables false
set_option linter.unusedSimpArgs false
variable {base : Nat}
section
variable {P : Program} {n k : Nat} {e : Env} {h : HS}
theorem SOp.ia1 {b o m' j : Nat} {x i : LX} {c : Option Nat} {k : IntKind} (hx : xev e x = some (.c (.sl b o m' 1 c))) (hi : xev e i = some (.c (.p (.int k (j : Nat))))) (h1 : j < m') : SOp P n (.ia 1 x i) e h (.c (.ptr b (o + j))) h := by
  have := SOp.iaO (P := P) (n := n) (h := h) hx hi (by omega) (by omega)
  rwa [show o + ((j : Nat) : Int).toNat * 1 = o + j by simp] at this
theorem SOp.ld1A {x : LX} {b i : Nat} {el : List PC} {u : PC} (hx : xev e x = some (.c (.ptr b i))) (hb : h.get b = some (.els 1 el)) (hu : el[i]? = some u) (h1 : u.cells.all PC.one = true) (h2 : u.cells.length = 1) (hl : getN u.cells 0 1 = some [u]) : SOp P n (.ld1 x) e h (.c (.p u)) h :=
  SOp.ld1O (s := 1) (o := 0) (by rw [Nat.mul_one, Nat.add_zero]; exact hx) hb hu h1 h2 hl
theorem SOp.sl1 {x : LX} {lo hi : Option LX} {b o m l r : Nat} (hx : xev e x = some (.c (.sl b o m 1 none))) (hl : BndX e lo 0 l) (hr : BndX e hi m r) (h1 : l ≤ r) (h2 : r ≤ m) :
    SOp P n (.sl 1 x lo hi none) e h (.c (.sl b (o + l) (r - l) 1 none)) h := by
  have := SOp.slO (P := P) (n := n) (h := h) hx hl hr h1 h2 (by omega)
  rwa [Nat.mul_one] at this
theorem SOp.appI1 {bytes b o m : Nat} {x y : LX} {v : XC} {ex : List PC} {u : PC} (hx : xev e x = some (.c (.sl b o m 1 none))) (hb : h.get b = some (.els 1 ex)) (hy : xev e y = some (.c v)) (hel : ElsX h 1 v [u]) (hm : o + m < ex.length) (hc : (m + 1) * bytes ≤ 140737488355328) :
    SOp P n (.app 1 bytes x y) e h (.c (.sl b o (m + 1) 1 none)) (h.put b (some (.els 1 (ex.set (o + m) u)))) :=
  step_app hx hy hel fun h1 h2 => by
    have h4 : (flatE 1 ex).length = ex.length * 1 := flatE_len 1 ex
    have h6 : (flatE 1 [u]).length = 1 * 1 := flatE_len 1 [u]
    have h5 : roomB none (m + 1) o 1 (flatE 1 ex).length = true := by
      simp only [roomB, h4, Nat.ble_eq]
      omega
    have h8 : o + m * 1 + 1 * 1 ≤ ex.length * 1 := by omega
    have h9 := setRange_flat 1 ex [u] (o + m) (by simp; omega)
    simp only [List.length_cons, List.length_nil, Nat.zero_add, XC.sc, get_els hb] at *
    rw [if_neg (by decide), if_pos ⟨hc, h1, by decide, trivial⟩, if_pos h5]
    simp only [SH.write, get_els hb, h6, h4, if_pos h8, Option.map_some]
    rw [show o + m * 1 = (o + m) * 1 by omega, h9, List.set_eq_take_append_cons_drop, if_pos hm]
    simp only [List.append_assoc, List.singleton_append, List.cons_append, List.nil_append]
    rfl
theorem SOp.appG1 {bytes b o m : Nat} {x y : LX} {v : XC} {ex : List PC} {u : PC} (hx : xev e x = some (.c (.sl b o m 1 none))) (hb : h.get b = some (.els 1 ex)) (hy : xev e y = some (.c v)) (hel : ElsX h 1 v [u]) (hm : o + m = ex.length) (hc : (m + 1) * bytes ≤ 140737488355328) :
    SOp P n (.app 1 bytes x y) e h (.c (.sl h.next 0 (m + 1) 1 none)) ((h.put b none).newO (.els 1 (ex.drop o ++ [u]))) :=
  step_app hx hy hel fun h1 h2 => by
    have h4 : (flatE 1 ex).length = ex.length * 1 := flatE_len 1 ex
    have h5 : ¬ (roomB none (m + 1) o 1 (flatE 1 ex).length = true) := by
      simp only [roomB, h4, Nat.ble_eq, Nat.not_le]
      omega
    have h6 := flatE_drop 1 ex o
    simp only [Nat.mul_one] at h6
    simp only [List.length_cons, List.length_nil, Nat.zero_add, XC.sc, get_els hb] at *
    rw [if_neg (by decide), if_pos ⟨hc, h1, by decide, trivial⟩, if_neg h5, if_pos ⟨by omega, .inr trivial⟩]
    simp only [Option.isSome_none, Bool.false_eq_true, if_false]
    rw [h6, List.take_of_length_le (by rw [flatE_len, List.length_drop]; omega), ← flatE_app]
    rfl
end
def hG0 (a d nx : Nat) (room first en : Int) (o m : Nat) (L : FS) (lc : Nat) (F : FS) (c : Nat) (X Y : List PC) : HS := ⟨[(d, some (.els 1 Y)), (a, some (.els 1 X)), (3, some (fM F c)), (2, some (fM L lc)), (1, some (.row [.p (.int .i64 room), .mp 2, .mp 3, .p (.tz true 5 [] none)] true)), (0, some (.row [.ptr 1 0, .p (.int .i64 first), .sl a o m 1 none, .sl d o m 1 none, .p (.int .i64 en)] true))], nx⟩
def hG1 (b a d nx : Nat) (room first en : Int) (o m : Nat) (L : FS) (lc : Nat) (F : FS) (c : Nat) (w : PC) (W : List PC) (X Y : List PC) : HS := ⟨[(d, some (.els 1 Y)), (a, some (.els 1 X)), (b, some (.els 5 (w :: W))), (3, some (fM F c)), (2, some (fM L lc)), (1, some (.row [.p (.int .i64 room), .mp 2, .mp 3, .acc b 5 (w :: W)] true)), (0, some (.row [.ptr 1 0, .p (.int .i64 first), .sl a o m 1 none, .sl d o m 1 none, .p (.int .i64 en)] true))], nx⟩
def hG0s (bl a d nx : Nat) (room first en : Int) (o m : Nat) (F : FS) (c : Nat) (X Y : List PC) : HS := ⟨[(bl, some (fM F c)), (d, some (.els 1 Y)), (a, some (.els 1 X)), (3, some (fM F c)), (1, some (.row [.p (.int .i64 room), .mp bl, .mp 3, .p (.tz true 5 [] none)] true)), (0, some (.row [.ptr 1 0, .p (.int .i64 first), .sl a o m 1 none, .sl d o m 1 none, .p (.int .i64 en)] true))], nx⟩
noncomputable def lWfi : {F : LF // lowerF Try.prog 31 = some F} := ⟨_, rfl⟩
noncomputable def lWge : {F : LF // lowerF Try.prog 26 = some F} := ⟨_, rfl⟩
theorem glast0_0 (room first en : Int) (o : Nat) (L : FS) (lc : Nat) (F : FS) (c : Nat) (X Y : List PC) : CallS Try.prog base 24 [.c (.ptr 0 0)] (hG0 4 5 6 room first en o 0 L lc F c X Y) (.c (.p (.int .i64 0))) (hG0 4 5 6 room first en o 0 L lc F c X Y) := by
  refine CallS.of noNG lWla.2 rfl (M.start (M.go rfl ?_))
  refine M.cond rfl (fun _ => ?_) (fun hn => absurd (by simp) hn)
  refine M.go rfl ?_
  exact M.ret (M.go rfl (M.done (finQ.ret [(0, 0), (1, 1), (2, 2), (3, 3), (4, 4), (5, 5)] rfl rfl rfl (by first | exact Wk.rfl | exact Wk.uncap | exact Wk.nil | exact Wk.b1 rfl | exact Wk.t2 Wk.rfl (Wk.b1 rfl)) (by repeat' (first | exact True.intro | refine hpC rfl rfl rfl ?_ | refine ⟨⟨_, _, _, rfl, rfl, rfl, @WkO.rfl _⟩, ?_⟩ | refine HeapOK.acc rfl rfl ?_)))))
theorem glast0_1 (room first en : Int) (o m : Nat) (L : FS) (lc : Nat) (F : FS) (c : Nat) (X Y : List PC) (hm : m ≤ 100000) (hf : 0 ≤ first ∧ first ≤ 2000000000000000) : CallS Try.prog base 24 [.c (.ptr 0 0)] (hG0 4 5 6 room first en o (m + 1) L lc F c X Y) (.c (.p (.int .i64 (first + m)))) (hG0 4 5 6 room first en o (m + 1) L lc F c X Y) := by
  refine CallS.of noNG lWla.2 rfl (M.start (M.go rfl ?_))
  refine M.cond rfl (fun hn => absurd hn (by simp; omega)) (fun _ => ?_)
  refine M.go rfl ?_
  refine M.regD (MD.go rfl ?_)
  refine MD.nil mixed (Fnl.nodup rfl) (M.go rfl ?_)
  rw [show ((m + 1 : Nat) : Int) = (m : Int) + 1 by omega, wr64 (n := first + ((m : Int) + 1)) (by omega) (by omega), show first + ((m : Int) + 1) - 1 = first + m by omega, wr64 (n := first + (m : Int)) (by omega) (by omega)]
  exact M.ret (M.go rfl (M.done (finQ.ret [(0, 0), (1, 1), (2, 2), (3, 3), (4, 4), (5, 5)] rfl rfl rfl (by first | exact Wk.rfl | exact Wk.uncap | exact Wk.nil | exact Wk.b1 rfl | exact Wk.t2 Wk.rfl (Wk.b1 rfl)) (by repeat' (first | exact True.intro | refine hpC rfl rfl rfl ?_ | refine ⟨⟨_, _, _, rfl, rfl, rfl, @WkO.rfl _⟩, ?_⟩ | refine HeapOK.acc rfl rfl ?_)))))
theorem gfirst0_0 (room first en : Int) (o : Nat) (L : FS) (lc : Nat) (F : FS) (c : Nat) (X Y : List PC) : CallS Try.prog base 31 [.c (.ptr 0 0)] (hG0 4 5 6 room first en o 0 L lc F c X Y) (.c (.p (.int .i64 0))) (hG0 4 5 6 room first en o 0 L lc F c X Y) := by
  refine CallS.of noNG lWfi.2 rfl (M.start (M.go rfl ?_))
  refine M.cond rfl (fun _ => ?_) (fun hn => absurd (by simp) hn)
  refine M.go rfl ?_
  exact M.ret (M.go rfl (M.done (finQ.ret [(0, 0), (1, 1), (2, 2), (3, 3), (4, 4), (5, 5)] rfl rfl rfl (by first | exact Wk.rfl | exact Wk.uncap | exact Wk.nil | exact Wk.b1 rfl | exact Wk.t2 Wk.rfl (Wk.b1 rfl)) (by repeat' (first | exact True.intro | refine hpC rfl rfl rfl ?_ | refine ⟨⟨_, _, _, rfl, rfl, rfl, @WkO.rfl _⟩, ?_⟩ | refine HeapOK.acc rfl rfl ?_)))))
theorem gfirst0_1 (room first en : Int) (o m : Nat) (L : FS) (lc : Nat) (F : FS) (c : Nat) (X Y : List PC) : CallS Try.prog base 31 [.c (.ptr 0 0)] (hG0 4 5 6 room first en o (m + 1) L lc F c X Y) (.c (.p (.int .i64 first))) (hG0 4 5 6 room first en o (m + 1) L lc F c X Y) := by
  refine CallS.of noNG lWfi.2 rfl (M.start (M.go rfl ?_))
  refine M.cond rfl (fun hn => absurd hn (by simp; omega)) (fun _ => ?_)
  refine M.go rfl ?_
  exact M.ret (M.go rfl (M.done (finQ.ret [(0, 0), (1, 1), (2, 2), (3, 3), (4, 4), (5, 5)] rfl rfl rfl (by first | exact Wk.rfl | exact Wk.uncap | exact Wk.nil | exact Wk.b1 rfl | exact Wk.t2 Wk.rfl (Wk.b1 rfl)) (by repeat' (first | exact True.intro | refine hpC rfl rfl rfl ?_ | refine ⟨⟨_, _, _, rfl, rfl, rfl, @WkO.rfl _⟩, ?_⟩ | refine HeapOK.acc rfl rfl ?_)))))
theorem gget0_y (room first en : Int) (o m : Nat) (L : FS) (lc : Nat) (F : FS) (c : Nat) (X Y : List PC) (hm : m ≤ 100000) (hf : 1 ≤ first ∧ first ≤ 2000000000000000) (j : Nat) (hj : j ≤ m) (n : Int) (hn : n = first + j) (z : Bool) (bs : List Int) (cp : Option Nat) (hX : X[o + j]? = some (fP z bs cp)) (hl : bs.length ≤ 1000000000) : CallS Try.prog base 26 [.c (.ptr 0 0), .c (.p (.int .i64 n))] (hG0 4 5 6 room first en o (m + 1) L lc F c X Y) (.tup [.c (.p (fP z bs none)), .c (.p (.bool true))]) (hG0 4 5 6 room first en o (m + 1) L lc F c X Y) := by
  subst hn
  refine CallS.of noNG lWge.2 rfl (M.start (M.go rfl ?_))
  refine M.use trivial (gfirst0_1 room first en o m L lc F c X Y) [(0, 0), (1, 1), (2, 2), (3, 3), (4, 4), (5, 5)] rfl rfl rfl (by repeat' (first | exact True.intro | refine hpC rfl rfl rfl ?_ | refine ⟨⟨_, _, _, rfl, rfl, rfl, @WkO.rfl _⟩, ?_⟩ | refine HeapOK.acc rfl rfl ?_)) rfl rfl ?_
  refine M.go rfl ?_
  refine M.dec rfl (fun hh => absurd hh (by omega)) (fun _ => ?_)
  refine M.go rfl ?_
  refine M.dec rfl (fun hh => absurd hh (by omega)) (fun h2 => ?_)
  refine M.go rfl ?_
  refine M.use (by first | exact True.intro | exact rfl) (glast0_1 room first en o m L lc F c X Y hm ⟨by omega, hf.2⟩) [(0, 0), (1, 1), (2, 2), (3, 3), (4, 4), (5, 5)] rfl rfl rfl (by repeat' (first | exact True.intro | refine hpC rfl rfl rfl ?_ | refine ⟨⟨_, _, _, rfl, rfl, rfl, @WkO.rfl _⟩, ?_⟩ | refine HeapOK.acc rfl rfl ?_)) rfl rfl ?_
  refine M.go rfl ?_
  refine M.cond rfl (fun hh => absurd hh (by omega)) (fun h3 => ?_)
  refine M.go rfl ?_
  refine M.regD (MD.go rfl ?_)
  rw [show first + (j : Int) - first = (j : Int) by omega, wr64 (n := (j : Int)) (by omega) (by omega)]
  refine MD.op trivial (SOp.ia1 rfl rfl (by omega)) ?_
  refine MD.op trivial (SOp.ld1A rfl rfl hX rfl rfl rfl) ?_
  refine MD.go rfl ?_
  refine MD.use0 trivial (bcl_spec z (u8P bs) cp (by rw [u8P_len]; omega)) rfl rfl rfl ?_
  refine MD.go rfl ?_
  refine MD.nil mixed (Fnl.nodup rfl) (M.go rfl ?_)
  exact M.ret (M.go rfl (M.done (finQ.ret [(0, 0), (1, 1), (2, 2), (3, 3), (4, 4), (5, 5)] rfl rfl rfl (Wk.t2 Wk.rfl (Wk.b1 rfl)) (by repeat' (first | exact True.intro | refine hpC rfl rfl rfl ?_ | refine ⟨⟨_, _, _, rfl, rfl, rfl, @WkO.rfl _⟩, ?_⟩ | refine HeapOK.acc rfl rfl ?_)))))
theorem gsync0_spec (room first en : Int) (o m : Nat) (L : FS) (lc : Nat) (F : FS) (c : Nat) (X Y : List PC) : CallS Try.prog base 22 [.c (.ptr 0 0)] (hG0 4 5 6 room first en o m L lc F c X Y) (.tup []) (hG0s 6 4 5 7 room first en o m F c X Y) := by
  refine CallS.of noNG lWsy.2 rfl (M.start (M.go rfl ?_))
  refine M.use trivial (sync0_spec room L lc F c) [(0, 1), (1, 2), (2, 3)] rfl rfl rfl (by repeat' (first | exact True.intro | refine hpC rfl rfl rfl ?_ | refine ⟨⟨_, _, _, rfl, rfl, rfl, @WkO.rfl _⟩, ?_⟩ | refine HeapOK.acc rfl rfl ?_)) rfl rfl ?_
  refine M.go rfl ?_
  exact M.done (finQ.normal [(0, 0), (1, 1), (2, 2), (3, 3), (4, 4), (5, 5), (6, 6)] rfl rfl rfl Wk.rfl (by repeat' (first | exact True.intro | refine hpC rfl rfl rfl ?_ | refine ⟨⟨_, _, _, rfl, rfl, rfl, @WkO.rfl _⟩, ?_⟩ | refine HeapOK.acc rfl rfl ?_)))
theorem glast1_0 (room first en : Int) (o : Nat) (L : FS) (lc : Nat) (F : FS) (c : Nat) (w : PC) (W : List PC) (X Y : List PC) : CallS Try.prog base 24 [.c (.ptr 0 0)] (hG1 4 5 6 7 room first en o 0 L lc F c w W X Y) (.c (.p (.int .i64 0))) (hG1 4 5 6 7 room first en o 0 L lc F c w W X Y) := by
  refine CallS.of noNG lWla.2 rfl (M.start (M.go rfl ?_))
  refine M.cond rfl (fun _ => ?_) (fun hn => absurd (by simp) hn)
  refine M.go rfl ?_
  exact M.ret (M.go rfl (M.done (finQ.ret [(0, 0), (1, 1), (2, 2), (3, 3), (4, 4), (5, 5), (6, 6)] rfl rfl rfl (by first | exact Wk.rfl | exact Wk.uncap | exact Wk.nil | exact Wk.b1 rfl | exact Wk.t2 Wk.rfl (Wk.b1 rfl)) (by repeat' (first | exact True.intro | refine hpC rfl rfl rfl ?_ | refine ⟨⟨_, _, _, rfl, rfl, rfl, @WkO.rfl _⟩, ?_⟩ | refine HeapOK.acc rfl rfl ?_)))))
theorem glast1_1 (room first en : Int) (o m : Nat) (L : FS) (lc : Nat) (F : FS) (c : Nat) (w : PC) (W : List PC) (X Y : List PC) (hm : m ≤ 100000) (hf : 0 ≤ first ∧ first ≤ 2000000000000000) : CallS Try.prog base 24 [.c (.ptr 0 0)] (hG1 4 5 6 7 room first en o (m + 1) L lc F c w W X Y) (.c (.p (.int .i64 (first + m)))) (hG1 4 5 6 7 room first en o (m + 1) L lc F c w W X Y) := by
  refine CallS.of noNG lWla.2 rfl (M.start (M.go rfl ?_))
  refine M.cond rfl (fun hn => absurd hn (by simp; omega)) (fun _ => ?_)
  refine M.go rfl ?_
  refine M.regD (MD.go rfl ?_)
  refine MD.nil mixed (Fnl.nodup rfl) (M.go rfl ?_)
  rw [show ((m + 1 : Nat) : Int) = (m : Int) + 1 by omega, wr64 (n := first + ((m : Int) + 1)) (by omega) (by omega), show first + ((m : Int) + 1) - 1 = first + m by omega, wr64 (n := first + (m : Int)) (by omega) (by omega)]
  exact M.ret (M.go rfl (M.done (finQ.ret [(0, 0), (1, 1), (2, 2), (3, 3), (4, 4), (5, 5), (6, 6)] rfl rfl rfl (by first | exact Wk.rfl | exact Wk.uncap | exact Wk.nil | exact Wk.b1 rfl | exact Wk.t2 Wk.rfl (Wk.b1 rfl)) (by repeat' (first | exact True.intro | refine hpC rfl rfl rfl ?_ | refine ⟨⟨_, _, _, rfl, rfl, rfl, @WkO.rfl _⟩, ?_⟩ | refine HeapOK.acc rfl rfl ?_)))))
theorem gfirst1_0 (room first en : Int) (o : Nat) (L : FS) (lc : Nat) (F : FS) (c : Nat) (w : PC) (W : List PC) (X Y : List PC) : CallS Try.prog base 31 [.c (.ptr 0 0)] (hG1 4 5 6 7 room first en o 0 L lc F c w W X Y) (.c (.p (.int .i64 0))) (hG1 4 5 6 7 room first en o 0 L lc F c w W X Y) := by
  refine CallS.of noNG lWfi.2 rfl (M.start (M.go rfl ?_))
  refine M.cond rfl (fun _ => ?_) (fun hn => absurd (by simp) hn)
  refine M.go rfl ?_
  exact M.ret (M.go rfl (M.done (finQ.ret [(0, 0), (1, 1), (2, 2), (3, 3), (4, 4), (5, 5), (6, 6)] rfl rfl rfl (by first | exact Wk.rfl | exact Wk.uncap | exact Wk.nil | exact Wk.b1 rfl | exact Wk.t2 Wk.rfl (Wk.b1 rfl)) (by repeat' (first | exact True.intro | refine hpC rfl rfl rfl ?_ | refine ⟨⟨_, _, _, rfl, rfl, rfl, @WkO.rfl _⟩, ?_⟩ | refine HeapOK.acc rfl rfl ?_)))))
theorem gfirst1_1 (room first en : Int) (o m : Nat) (L : FS) (lc : Nat) (F : FS) (c : Nat) (w : PC) (W : List PC) (X Y : List PC) : CallS Try.prog base 31 [.c (.ptr 0 0)] (hG1 4 5 6 7 room first en o (m + 1) L lc F c w W X Y) (.c (.p (.int .i64 first))) (hG1 4 5 6 7 room first en o (m + 1) L lc F c w W X Y) := by
  refine CallS.of noNG lWfi.2 rfl (M.start (M.go rfl ?_))
  refine M.cond rfl (fun hn => absurd hn (by simp; omega)) (fun _ => ?_)
  refine M.go rfl ?_
  exact M.ret (M.go rfl (M.done (finQ.ret [(0, 0), (1, 1), (2, 2), (3, 3), (4, 4), (5, 5), (6, 6)] rfl rfl rfl (by first | exact Wk.rfl | exact Wk.uncap | exact Wk.nil | exact Wk.b1 rfl | exact Wk.t2 Wk.rfl (Wk.b1 rfl)) (by repeat' (first | exact True.intro | refine hpC rfl rfl rfl ?_ | refine ⟨⟨_, _, _, rfl, rfl, rfl, @WkO.rfl _⟩, ?_⟩ | refine HeapOK.acc rfl rfl ?_)))))
theorem gget1_y (room first en : Int) (o m : Nat) (L : FS) (lc : Nat) (F : FS) (c : Nat) (w : PC) (W : List PC) (X Y : List PC) (hm : m ≤ 100000) (hf : 1 ≤ first ∧ first ≤ 2000000000000000) (j : Nat) (hj : j ≤ m) (n : Int) (hn : n = first + j) (z : Bool) (bs : List Int) (cp : Option Nat) (hX : X[o + j]? = some (fP z bs cp)) (hl : bs.length ≤ 1000000000) : CallS Try.prog base 26 [.c (.ptr 0 0), .c (.p (.int .i64 n))] (hG1 4 5 6 7 room first en o (m + 1) L lc F c w W X Y) (.tup [.c (.p (fP z bs none)), .c (.p (.bool true))]) (hG1 4 5 6 7 room first en o (m + 1) L lc F c w W X Y) := by
  subst hn
  refine CallS.of noNG lWge.2 rfl (M.start (M.go rfl ?_))
  refine M.use trivial (gfirst1_1 room first en o m L lc F c w W X Y) [(0, 0), (1, 1), (2, 2), (3, 3), (4, 4), (5, 5), (6, 6)] rfl rfl rfl (by repeat' (first | exact True.intro | refine hpC rfl rfl rfl ?_ | refine ⟨⟨_, _, _, rfl, rfl, rfl, @WkO.rfl _⟩, ?_⟩ | refine HeapOK.acc rfl rfl ?_)) rfl rfl ?_
  refine M.go rfl ?_
  refine M.dec rfl (fun hh => absurd hh (by omega)) (fun _ => ?_)
  refine M.go rfl ?_
  refine M.dec rfl (fun hh => absurd hh (by omega)) (fun h2 => ?_)
  refine M.go rfl ?_
  refine M.use (by first | exact True.intro | exact rfl) (glast1_1 room first en o m L lc F c w W X Y hm ⟨by omega, hf.2⟩) [(0, 0), (1, 1), (2, 2), (3, 3), (4, 4), (5, 5), (6, 6)] rfl rfl rfl (by repeat' (first | exact True.intro | refine hpC rfl rfl rfl ?_ | refine ⟨⟨_, _, _, rfl, rfl, rfl, @WkO.rfl _⟩, ?_⟩ | refine HeapOK.acc rfl rfl ?_)) rfl rfl ?_
  refine M.go rfl ?_
  refine M.cond rfl (fun hh => absurd hh (by omega)) (fun h3 => ?_)
  refine M.go rfl ?_
  refine M.regD (MD.go rfl ?_)
  rw [show first + (j : Int) - first = (j : Int) by omega, wr64 (n := (j : Int)) (by omega) (by omega)]
  refine MD.op trivial (SOp.ia1 rfl rfl (by omega)) ?_
  refine MD.op trivial (SOp.ld1A rfl rfl hX rfl rfl rfl) ?_
  refine MD.go rfl ?_
  refine MD.use0 trivial (bcl_spec z (u8P bs) cp (by rw [u8P_len]; omega)) rfl rfl rfl ?_
  refine MD.go rfl ?_
  refine MD.nil mixed (Fnl.nodup rfl) (M.go rfl ?_)
  exact M.ret (M.go rfl (M.done (finQ.ret [(0, 0), (1, 1), (2, 2), (3, 3), (4, 4), (5, 5), (6, 6)] rfl rfl rfl (Wk.t2 Wk.rfl (Wk.b1 rfl)) (by repeat' (first | exact True.intro | refine hpC rfl rfl rfl ?_ | refine ⟨⟨_, _, _, rfl, rfl, rfl, @WkO.rfl _⟩, ?_⟩ | refine HeapOK.acc rfl rfl ?_)))))
theorem gsync1_spec (room first en : Int) (o m : Nat) (L : FS) (lc : Nat) (F : FS) (c : Nat) (w : PC) (W : List PC) (X Y : List PC) : CallS Try.prog base 22 [.c (.ptr 0 0)] (hG1 4 5 6 7 room first en o m L lc F c w W X Y) (.tup []) (hG0s 7 5 6 8 room first en o m F c X Y) := by
  refine CallS.of noNG lWsy.2 rfl (M.start (M.go rfl ?_))
  refine M.use trivial (sync1_spec room L lc F c w W) [(0, 1), (1, 2), (2, 3), (3, 4)] rfl rfl rfl (by repeat' (first | exact True.intro | refine hpC rfl rfl rfl ?_ | refine ⟨⟨_, _, _, rfl, rfl, rfl, @WkO.rfl _⟩, ?_⟩ | refine HeapOK.acc rfl rfl ?_)) rfl rfl ?_
  refine M.go rfl ?_
  exact M.done (finQ.normal [(0, 0), (1, 1), (2, 2), (3, 3), (4, 4), (5, 5), (6, 6), (7, 7)] rfl rfl rfl Wk.rfl (by repeat' (first | exact True.intro | refine hpC rfl rfl rfl ?_ | refine ⟨⟨_, _, _, rfl, rfl, rfl, @WkO.rfl _⟩, ?_⟩ | refine HeapOK.acc rfl rfl ?_)))
theorem gaddi_0 (room first en : Int) (o : Nat) (L : FS) (lc : Nat) (F : FS) (c : Nat) (w : PC) (W : List PC) (X Y : List PC) (n : Int) (z : Bool) (b : List Int) (cb : Option Nat) (size : Int) (hXl : o + 0 < X.length) (hYl : o + 0 < Y.length) (hb : b.length ≤ 1000000) (he : 0 ≤ en ∧ en ≤ 1000000000) (hs : 0 ≤ size ∧ size ≤ 1000000000) : CallS Try.prog base 62 [.c (.ptr 0 0), .c (.p (.int .i64 n)), .c (.p (.tz z 1 (u8P b) cb)), .c (.p (.int .i64 size))] (hG1 4 5 6 7 room first en o 0 L lc F c w W X Y) (.tup []) (hG1 4 5 6 7 room n (en + size) o (0 + 1) L lc F c w W (X.set (o + 0) (fP z b none)) (Y.set (o + 0) (.int .i64 en))) := by
  refine CallS.of noNG lAdd.2 rfl (M.start (M.go rfl ?_))
  refine M.cond rfl (fun _ => ?_) (fun hn => absurd (by simp) hn)
  refine M.go rfl ?_
  refine M.regG rfl (MN.go rfl ?_)
  refine MN.use0 (by first | exact True.intro | exact rfl) (bcl_spec z (u8P b) cb (by rw [u8P_len]; omega)) rfl rfl rfl (MN.go rfl ?_)
  refine MN.op rfl (by first | exact True.intro | exact rfl) (SOp.appI1 rfl rfl rfl (.own rfl rfl) hXl (by omega)) (MN.go rfl ?_)
  refine MN.op rfl (by first | exact True.intro | exact rfl) (SOp.appI1 rfl rfl rfl (.own rfl rfl) hYl (by omega)) (MN.go rfl ?_)
  refine MN.nil mixed (Fnl.nodup rfl) rfl ⟨⟨stepX_ok rfl, stepX_ok rfl, trivial⟩, ⟨stepX_ok rfl, stepX_ok rfl, stepX_ok rfl, trivial⟩, ⟨stepX_ok rfl, stepX_ok rfl, stepX_ok rfl, trivial⟩, trivial⟩ (M.go rfl ?_)
  rw [wr64 (n := en + size) (by omega) (by omega)]
  exact M.done (finQ.normal [(0, 0), (1, 1), (2, 2), (3, 3), (4, 4), (5, 5), (6, 6)] rfl rfl rfl Wk.rfl (by repeat' (first | exact True.intro | refine hpC rfl rfl rfl ?_ | refine ⟨⟨_, _, _, rfl, rfl, rfl, @WkO.rfl _⟩, ?_⟩ | refine HeapOK.acc rfl rfl ?_)))
theorem gaddi_1 (room first en : Int) (o m : Nat) (L : FS) (lc : Nat) (F : FS) (c : Nat) (w : PC) (W : List PC) (X Y : List PC) (n : Int) (z : Bool) (b : List Int) (cb : Option Nat) (size : Int) (hm : m ≤ 100000) (hXl : o + m < X.length) (hYl : o + m < Y.length) (hb : b.length ≤ 1000000) (he : 0 ≤ en ∧ en ≤ 1000000000) (hs : 0 ≤ size ∧ size ≤ 1000000000) (h0 : 0 < m) : CallS Try.prog base 62 [.c (.ptr 0 0), .c (.p (.int .i64 n)), .c (.p (.tz z 1 (u8P b) cb)), .c (.p (.int .i64 size))] (hG1 4 5 6 7 room first en o m L lc F c w W X Y) (.tup []) (hG1 4 5 6 7 room first (en + size) o (m + 1) L lc F c w W (X.set (o + m) (fP z b none)) (Y.set (o + m) (.int .i64 en))) := by
  refine CallS.of noNG lAdd.2 rfl (M.start (M.go rfl ?_))
  refine M.cond rfl (fun hn => absurd hn (by omega)) (fun _ => ?_)
  refine M.go rfl ?_
  refine M.regG rfl (MN.go rfl ?_)
  refine MN.use0 (by first | exact True.intro | exact rfl) (bcl_spec z (u8P b) cb (by rw [u8P_len]; omega)) rfl rfl rfl (MN.go rfl ?_)
  refine MN.op rfl (by first | exact True.intro | exact rfl) (SOp.appI1 rfl rfl rfl (.own rfl rfl) hXl (by omega)) (MN.go rfl ?_)
  refine MN.op rfl (by first | exact True.intro | exact rfl) (SOp.appI1 rfl rfl rfl (.own rfl rfl) hYl (by omega)) (MN.go rfl ?_)
  refine MN.nil mixed (Fnl.nodup rfl) rfl ⟨⟨stepX_ok rfl, stepX_ok rfl, trivial⟩, ⟨stepX_ok rfl, stepX_ok rfl, stepX_ok rfl, trivial⟩, ⟨stepX_ok rfl, stepX_ok rfl, stepX_ok rfl, trivial⟩, trivial⟩ (M.go rfl ?_)
  rw [wr64 (n := en + size) (by omega) (by omega)]
  exact M.done (finQ.normal [(0, 0), (1, 1), (2, 2), (3, 3), (4, 4), (5, 5), (6, 6)] rfl rfl rfl Wk.rfl (by repeat' (first | exact True.intro | refine hpC rfl rfl rfl ?_ | refine ⟨⟨_, _, _, rfl, rfl, rfl, @WkO.rfl _⟩, ?_⟩ | refine HeapOK.acc rfl rfl ?_)))
theorem gaddg_0 (room first en : Int) (o : Nat) (L : FS) (lc : Nat) (F : FS) (c : Nat) (w : PC) (W : List PC) (X Y : List PC) (n : Int) (z : Bool) (b : List Int) (cb : Option Nat) (size : Int) (hXl : o + 0 = X.length) (hYl : o + 0 = Y.length) (hb : b.length ≤ 1000000) (he : 0 ≤ en ∧ en ≤ 1000000000) (hs : 0 ≤ size ∧ size ≤ 1000000000) : CallS Try.prog base 62 [.c (.ptr 0 0), .c (.p (.int .i64 n)), .c (.p (.tz z 1 (u8P b) cb)), .c (.p (.int .i64 size))] (hG1 4 5 6 7 room first en o 0 L lc F c w W X Y) (.tup []) (hG1 4 7 8 9 room n (en + size) 0 (0 + 1) L lc F c w W (X.drop o ++ [fP z b none]) (Y.drop o ++ [.int .i64 en])) := by
  refine CallS.of noNG lAdd.2 rfl (M.start (M.go rfl ?_))
  refine M.cond rfl (fun _ => ?_) (fun hn => absurd (by simp) hn)
  refine M.go rfl ?_
  refine M.regG rfl (MN.go rfl ?_)
  refine MN.use0 (by first | exact True.intro | exact rfl) (bcl_spec z (u8P b) cb (by rw [u8P_len]; omega)) rfl rfl rfl (MN.go rfl ?_)
  refine MN.op rfl (by first | exact True.intro | exact rfl) (SOp.appG1 rfl rfl rfl (.own rfl rfl) hXl (by omega)) (MN.go rfl ?_)
  refine MN.op rfl (by first | exact True.intro | exact rfl) (SOp.appG1 rfl rfl rfl (.own rfl rfl) hYl (by omega)) (MN.go rfl ?_)
  refine MN.nil mixed (Fnl.nodup rfl) rfl ⟨⟨stepX_ok rfl, stepX_ok rfl, trivial⟩, ⟨stepX_ok rfl, stepX_ok rfl, stepX_ok rfl, trivial⟩, ⟨stepX_ok rfl, stepX_ok rfl, stepX_ok rfl, trivial⟩, trivial⟩ (M.go rfl ?_)
  rw [wr64 (n := en + size) (by omega) (by omega)]
  exact M.done (finQ.normal [(0, 0), (1, 1), (2, 2), (3, 3), (4, 4), (5, 5), (6, 6), (7, 33), (8, 34)] rfl rfl rfl Wk.rfl (by repeat' (first | exact True.intro | refine hpC rfl rfl rfl ?_ | refine ⟨⟨_, _, _, rfl, rfl, rfl, @WkO.rfl _⟩, ?_⟩ | refine HeapOK.acc rfl rfl ?_)))
theorem gaddg_1 (room first en : Int) (o m : Nat) (L : FS) (lc : Nat) (F : FS) (c : Nat) (w : PC) (W : List PC) (X Y : List PC) (n : Int) (z : Bool) (b : List Int) (cb : Option Nat) (size : Int) (hm : m ≤ 100000) (hXl : o + m = X.length) (hYl : o + m = Y.length) (hb : b.length ≤ 1000000) (he : 0 ≤ en ∧ en ≤ 1000000000) (hs : 0 ≤ size ∧ size ≤ 1000000000) (h0 : 0 < m) : CallS Try.prog base 62 [.c (.ptr 0 0), .c (.p (.int .i64 n)), .c (.p (.tz z 1 (u8P b) cb)), .c (.p (.int .i64 size))] (hG1 4 5 6 7 room first en o m L lc F c w W X Y) (.tup []) (hG1 4 7 8 9 room first (en + size) 0 (m + 1) L lc F c w W (X.drop o ++ [fP z b none]) (Y.drop o ++ [.int .i64 en])) := by
  refine CallS.of noNG lAdd.2 rfl (M.start (M.go rfl ?_))
  refine M.cond rfl (fun hn => absurd hn (by omega)) (fun _ => ?_)
  refine M.go rfl ?_
  refine M.regG rfl (MN.go rfl ?_)
  refine MN.use0 (by first | exact True.intro | exact rfl) (bcl_spec z (u8P b) cb (by rw [u8P_len]; omega)) rfl rfl rfl (MN.go rfl ?_)
  refine MN.op rfl (by first | exact True.intro | exact rfl) (SOp.appG1 rfl rfl rfl (.own rfl rfl) hXl (by omega)) (MN.go rfl ?_)
  refine MN.op rfl (by first | exact True.intro | exact rfl) (SOp.appG1 rfl rfl rfl (.own rfl rfl) hYl (by omega)) (MN.go rfl ?_)
  refine MN.nil mixed (Fnl.nodup rfl) rfl ⟨⟨stepX_ok rfl, stepX_ok rfl, trivial⟩, ⟨stepX_ok rfl, stepX_ok rfl, stepX_ok rfl, trivial⟩, ⟨stepX_ok rfl, stepX_ok rfl, stepX_ok rfl, trivial⟩, trivial⟩ (M.go rfl ?_)
  rw [wr64 (n := en + size) (by omega) (by omega)]
  exact M.done (finQ.normal [(0, 0), (1, 1), (2, 2), (3, 3), (4, 4), (5, 5), (6, 6), (7, 33), (8, 34)] rfl rfl rfl Wk.rfl (by repeat' (first | exact True.intro | refine hpC rfl rfl rfl ?_ | refine ⟨⟨_, _, _, rfl, rfl, rfl, @WkO.rfl _⟩, ?_⟩ | refine HeapOK.acc rfl rfl ?_)))
end Go.Proofs.Ytjlfojgacnphmaa

namespace Go.Proofs.Ytjlfojgacnphmaa
open Go.RowKit Sim Go Sym
set_option maxRecDepth 100000
set_option linter.unusedVariables false
set_option linter.unusedSimpArgs false
variable {base : Nat}
theorem rowAcc {m : Nat} {x : PC} {l : List PC} (h : m = (x :: l).length) (s b : Nat) : Wk (.c (.acc b s (x :: l))) (.c (.sl b 0 m s none)) := by subst h; exact Wk.of rfl
def hOG0 (room first en : Int) (m : Nat) (L : FS) (lc : Nat) (F : FS) (c : Nat) (X Y : List PC) : HS := ⟨[(5, some (.els 1 Y)), (4, some (.els 1 X)), (3, some (.row [.ptr 0 0, .p (.int .i64 first), .sl 4 0 m 1 none, .sl 5 0 m 1 none, .p (.int .i64 en)] true)), (2, some (fM F c)), (1, some (fM L lc)), (0, some (.row [.p (.int .i64 room), .mp 1, .mp 2, .p (.tz true 5 [] none)] true))], 6⟩
def chC (n : Nat) : PC := .agg (chX 1 [119] [] (fP true [] none) n)
theorem posR_cons (b : List Int) (f : Int) (R : List (List Int)) : posR 0 f (b :: R) = .int .i64 0 :: yP b f R := by rw [posR, yP, Int.zero_add]
theorem gopen_n (room : Int) (L : FS) (lc : Nat) (F : FS) (c : Nat) (f : Int) (b : List Int) (rest : List (List Int)) (h : RecOK f (b :: rest)) (zF : Bool) (cp : Option Nat) (B : List Int) (hBB : Bytes B) (hBl : B.length ≤ 1000000000) (hscan : scan B = (recsR f (b :: rest), (flatR f (b :: rest)).length)) (hT : (flatR f (b :: rest)).length = B.length) (h1 : findP frN F = none) (h2 : findP [119] F = some (fP zF B cp)) : CallS Try.prog base 20 [.c (.ptr 0 0)] (hD0 room L lc F c) (.tup [.c (.ptr 3 0), .c (.p (.int .i64 0))]) (hOG0 room f ((flatR f (b :: rest)).length : Nat) (rest.length + 1) L lc F c (rcsP (b :: rest)) (posR 0 f (b :: rest))) := by
  rw [posR_cons]
  have hBF := flatR_bytes (b :: rest) f h
  have hFl := flatR_len (b :: rest) f h
  have hRl := h.l
  have hf := h.f
  have hsc := scan_spec (base := base) zF B none hBB (by omega)
  rw [hscan] at hsc
  have hsl : (sksP (recsR f (b :: rest))).length = (b :: rest).length := by simp [sksP, recsR_len]
  have hbb := h.b b (by simp)
  have hl := recB_len (n := f) (b := b) (by omega) (by omega) hbb.2
  have hBs := recB_bytes (n := f) hbb.1
  have hn64 : InI64 f := ⟨by omega, by omega⟩
  have hnum := num_rec hn64 b
  have hrok : (⟨false, recB f b, false⟩ : RS).ok := ⟨by show (recB f b).length ≤ _; omega, hBs, fun e => (by cases e), fun e => (by cases e)⟩
  have hrn := rnum_spec (base := base) ⟨false, recB f b, false⟩ hrok
  rw [hnum] at hrn
  have hsn := seal_len (xs := recB f b) (by omega)
  have hu : (sksP (recsR f (b :: rest)))[((0 : Int)).toNat]? = some (skP (recB f b)) := rfl
  have h1f : (flatR f [b]).length = (sealB (recB f b)).length := by simp [flatR]
  refine CallS.of noNG lWop.2 rfl (M.start (M.go rfl ?_))
  refine M.use trivial (remove0_none room L lc F c frN h1) [(0, 0), (1, 1), (2, 2)] rfl rfl rfl (by repeat' (first | exact True.intro | refine hpC rfl rfl rfl ?_ | refine ⟨⟨_, _, _, rfl, rfl, rfl, @WkO.rfl _⟩, ?_⟩ | refine HeapOK.acc rfl rfl ?_)) rfl rfl ?_
  refine M.go rfl ?_
  refine M.use trivial (read0_spec room L lc F c [119] zF B cp h2 (by omega)) [(0, 0), (1, 1), (2, 2)] rfl rfl rfl (by repeat' (first | exact True.intro | refine hpC rfl rfl rfl ?_ | refine ⟨⟨_, _, _, rfl, rfl, rfl, @WkO.rfl _⟩, ?_⟩ | refine HeapOK.acc rfl rfl ?_)) rfl rfl ?_
  refine M.go rfl ?_
  refine M.use0 trivial hsc rfl rfl rfl ?_
  refine M.go rfl ?_
  refine M.loop (M.round (M.go rfl ?_))
  refine M.cond rfl (fun _ => ?_) (fun hn => absurd (by rw [hsl]; simp) hn)
  refine M.go rfl ?_
  refine M.op trivial (SOp.ia rfl rfl (by omega) hu) ?_
  refine M.op trivial (SOp.ld1e rfl hu rfl rfl rfl) ?_
  refine M.go rfl ?_
  refine M.use trivial (rread_spec false (recB f b) none (by omega)) [] rfl rfl rfl trivial rfl rfl ?_
  refine M.go rfl ?_
  refine M.use trivial hrn [(0, 4)] rfl rfl rfl (by repeat' (first | exact True.intro | refine hpC rfl rfl rfl ?_ | refine ⟨⟨_, _, _, rfl, rfl, rfl, @WkO.rfl _⟩, ?_⟩ | refine HeapOK.acc rfl rfl ?_)) rfl rfl ?_
  refine M.go rfl ?_
  refine M.use trivial (rleft_spec ⟨false, b, false⟩) [(0, 4)] rfl rfl rfl (by repeat' (first | exact True.intro | refine hpC rfl rfl rfl ?_ | refine ⟨⟨_, _, _, rfl, rfl, rfl, @WkO.rfl _⟩, ?_⟩ | refine HeapOK.acc rfl rfl ?_)) rfl rfl ?_
  refine M.go rfl ?_
  rw [u8P_len (recB f b)]
  have hdr : (recB f b).drop ((recB f b).length - b.length) = b := by rw [recB, List.length_append, Nat.add_sub_cancel]; exact List.drop_left' rfl
  rw [wr64 (n := ((recB f b).length : Int) - (b.length : Int)) (by omega) (by omega)]
  refine M.op trivial (SOp.sl (l := (recB f b).length - b.length) (r := (recB f b).length) rfl ⟨_, _, rfl, by omega, by omega⟩ (u8P_len _).symm (by omega) (by rw [u8P_len]; omega)) ?_
  rw [u8P_drop, hdr, List.take_of_length_le (by rw [u8P_len]; omega)]
  refine M.go rfl ?_
  refine M.use trivial (rok_spec ⟨false, b, false⟩) [(0, 4)] rfl rfl rfl (by repeat' (first | exact True.intro | refine hpC rfl rfl rfl ?_ | refine ⟨⟨_, _, _, rfl, rfl, rfl, @WkO.rfl _⟩, ?_⟩ | refine HeapOK.acc rfl rfl ?_)) rfl rfl ?_
  refine M.go rfl ?_
  refine M.decB rfl (fun hn => by cases hn) (fun _ => ?_)
  refine M.go rfl ?_
  refine M.dec rfl (fun hn => absurd hn (by omega)) (fun _ => ?_)
  refine M.go rfl ?_
  refine M.dec rfl (fun hn => absurd hn (by rw [u8P_len]; omega)) (fun _ => ?_)
  refine M.go rfl ?_
  refine M.dec rfl (fun hn => absurd hn (by simp)) (fun _ => ?_)
  refine M.go rfl ?_
  refine M.use0 trivial (sealS_yes false none (recB f b) hBs (by omega)) rfl rfl rfl ?_
  refine M.go rfl ?_
  rw [u8P_len (sealB (recB f b))]
  refine M.shO (Sh.wkH (b0 := 3) (o' := .row [.ptr 0 0, .p (.int .i64 0), .p (.tz true 1 [] none), .p (.tz true 1 [] none), .p (.int .i64 0)] true) rfl rfl (WkO.row ⟨Wk.rfl, Wk.rfl, Wk.nil, Wk.nil, Wk.rfl, trivial⟩) Sh.refl) ?_
  refine M.use trivial (add00_spec room 0 0 L lc F c f false b none ((sealB (recB f b)).length : Int) (by omega) (by omega) ⟨by omega, by omega⟩) [(0, 3), (1, 0), (2, 1), (3, 2)] rfl rfl rfl (by repeat' (first | exact True.intro | refine hpC rfl rfl rfl ?_ | refine ⟨⟨_, _, _, rfl, rfl, rfl, @WkO.rfl _⟩, ?_⟩ | refine HeapOK.acc rfl rfl ?_)) rfl rfl ?_
  refine M.go rfl ?_
  rw [hsl, show (0 : Int) + ((sealB (recB f b)).length : Int) = ((flatR f [b]).length : Nat) by rw [h1f]; omega]
  refine M.again (XH.ren [(0, 0), (1, 1), (2, 2), (3, 3), (4, 5), (5, 6)] (open_loop room L lc F c B zF f (b :: rest) h _ (fun b0 pr hp => ?_) rest b [] rfl) rfl (by repeat' (first | exact True.intro | refine evC rfl rfl Wk.rfl ?_ | refine evC (accV_ren rfl) rfl Wk.rfl ?_ | refine evC (accV_ren rfl) rfl Wk.acc0 ?_ | refine evC rfl rfl Wk.uncap ?_ | refine evC rfl rfl Wk.nil ?_)) (by repeat' (first | exact True.intro | refine hpC rfl rfl rfl ?_ | refine ⟨⟨_, _, _, rfl, rfl, rfl, @WkO.rfl _⟩, ?_⟩ | refine HeapOK.acc rfl rfl ?_)))
  obtain ⟨rfl, rfl⟩ := List.cons.inj hp
  refine M.q (M.go rfl (M.done (M.q (M.go rfl ?_))))
  refine M.cond rfl (fun hn => absurd hn (by rw [u8P_len]; omega)) (fun _ => ?_)
  refine M.go rfl ?_
  exact M.ret (M.go rfl (M.done (finQ.ret [(0, 0), (1, 1), (2, 2), (3, 3), (4, 4), (5, 5)] rfl rfl rfl (Wk.of rfl) ⟨(hpX rfl rfl rfl), (hpX rfl rfl rfl), ⟨_, _, _, rfl, rfl, rfl, WkO.row ⟨Wk.rfl, Wk.rfl, rowAcc (by simp [rcsP]) _ _, rowAcc (by simp [yP_len]) _ _, Wk.rfl, trivial⟩⟩, (hpX rfl rfl rfl), (hpX rfl rfl rfl), (hpX rfl rfl rfl), trivial⟩)))
theorem gopen_e (room : Int) (L : FS) (lc : Nat) (F : FS) (c : Nat) (zF : Bool) (cp : Option Nat) (B : List Int) (hBB : Bytes B) (hBl : B.length ≤ 1000000000) (hscan : scan B = ([], 0)) (hT : B.length = 0) (h1 : findP frN F = none) (h2 : findP [119] F = some (fP zF B cp)) : CallS Try.prog base 20 [.c (.ptr 0 0)] (hD0 room L lc F c) (.tup [.c (.ptr 3 0), .c (.p (.int .i64 0))]) (hO0 room 0 0 L lc F c) := by
  have hsc := scan_spec (base := base) zF B none hBB (by omega)
  rw [hscan] at hsc
  refine CallS.of noNG lWop.2 rfl (M.start (M.go rfl ?_))
  refine M.use trivial (remove0_none room L lc F c frN h1) [(0, 0), (1, 1), (2, 2)] rfl rfl rfl (by repeat' (first | exact True.intro | refine hpC rfl rfl rfl ?_ | refine ⟨⟨_, _, _, rfl, rfl, rfl, @WkO.rfl _⟩, ?_⟩ | refine HeapOK.acc rfl rfl ?_)) rfl rfl ?_
  refine M.go rfl ?_
  refine M.use trivial (read0_spec room L lc F c [119] zF B cp h2 (by omega)) [(0, 0), (1, 1), (2, 2)] rfl rfl rfl (by repeat' (first | exact True.intro | refine hpC rfl rfl rfl ?_ | refine ⟨⟨_, _, _, rfl, rfl, rfl, @WkO.rfl _⟩, ?_⟩ | refine HeapOK.acc rfl rfl ?_)) rfl rfl ?_
  refine M.go rfl ?_
  refine M.use0 trivial hsc rfl rfl rfl ?_
  refine M.go rfl ?_
  refine M.loop (M.round (M.go rfl ?_))
  refine M.cond rfl (fun hn => absurd hn (by decide)) (fun _ => ?_)
  refine M.exit (M.go rfl (M.done (M.q (M.go rfl ?_))))
  refine M.cond rfl (fun hn => absurd hn (by rw [u8P_len]; omega)) (fun _ => ?_)
  refine M.go rfl ?_
  exact M.ret (M.go rfl (M.done (finQ.ret [(0, 0), (1, 1), (2, 2), (3, 3)] rfl rfl rfl (Wk.of rfl) ⟨⟨_, _, _, rfl, rfl, rfl, WkO.row ⟨Wk.rfl, Wk.rfl, Wk.nil, Wk.nil, Wk.rfl, trivial⟩⟩, (hpX rfl rfl rfl), (hpX rfl rfl rfl), (hpX rfl rfl rfl), trivial⟩)))
end Go.Proofs.Ytjlfojgacnphmaa

namespace Go.Proofs.Ytjlfojgacnphmaa
open Go.RowKit Sim Go Sym
set_option maxRecDepth 100000
set_option linter.unusedVariables false
set_option linter.unusedSimpArgs false
variable {base : Nat}
def chA (b : List Int) : PC := .agg (chX 0 [119] [] (fP false b none) 0)

noncomputable def lWfr : {F : LF // lowerF Try.prog 25 = some F} := ⟨_, rfl⟩
theorem gapp0i0_spec (room first en : Int) (o : Nat) (L : FS) (lc : Nat) (F : FS) (c : Nat) (X Y : List PC) (n : Int) (hn1 : 1 ≤ n ∧ n ≤ 2000000000000000) (hXl : o + 0 < X.length) (hYl : o + 0 < Y.length) (z : Bool) (b : List Int) (cb : Option Nat) (hB : Bytes b) (hb : b.length ≤ 30000) (he : 0 ≤ en ∧ en ≤ 1000000000) (hF : FOK F c) (hr : room ≤ 100000000000) (hroom : ((usedN F + (sealB (recB n b)).length : Nat) : Int) ≤ room) (hfile : (findP [119] F).isSome = true ∨ F.length < 64) (F2 : FS) (c2 : Nat)
    (hdo : CallS Try.prog base 66 [.c (.mp 0), .agg ((chX 0 [119] [] (fP false (sealB (recB n b)) none) 0).map XC.p), .c (.p (.int .i64 (sealB (recB n b)).length))] ⟨[(0, some (fM F c))], 1⟩ (.tup []) ⟨[(0, some (fM F2 c2))], 1⟩) :
    CallS Try.prog base 21 [.c (.ptr 0 0), .c (.p (.int .i64 n)), .c (.p (.tz z 1 (u8P b) cb))] (hG0 4 5 6 room first en o 0 L lc F c X Y) (.c (.p (.int .i64 0))) (hG1 6 4 5 7 room n (en + (sealB (recB n b)).length) o (0 + 1) L lc F2 c2 ((chA (sealB (recB n b)))) ([]) (X.set (o + 0) (fP z b none)) (Y.set (o + 0) (.int .i64 en))) := by
  have hlb : (u8P b).length = b.length := u8P_len b
  have hnB := numB_len (n := n) (by omega) (by omega)
  have hrl : (recB n b).length ≤ 65536 := by simp [recB]; omega
  have hsl : (sealB (recB n b)).length = 8 + (recB n b).length := seal_len hrl
  have hsl2 : (sealB (recB n b)).length ≤ 40000 := by rw [hsl]; simp [recB]; omega
  refine CallS.of noNG lWap.2 rfl (M.start (M.go rfl ?_))
  refine M.dec rfl (fun hn => absurd hn (by omega)) (fun _ => ?_)
  refine M.go rfl ?_
  refine M.dec rfl (fun hn => absurd hn (by simp)) (fun _ => ?_)
  refine M.go rfl ?_
  refine M.cond rfl (fun hn => absurd hn (by rw [hlb]; omega)) (fun _ => ?_)
  refine M.go rfl ?_
  refine M.use0 trivial (wseal_spec n ⟨by omega, by omega⟩ z b cb hB hrl) rfl rfl rfl ?_
  refine M.go rfl ?_
  refine M.use trivial (append0_spec room L lc F c [119] false (sealB (recB n b)) none may_w hF hr hroom hfile F2 c2 hdo) [(0, 1), (1, 2), (2, 3)] rfl rfl rfl (by repeat' (first | exact True.intro | refine hpC rfl rfl rfl ?_ | refine ⟨⟨_, _, _, rfl, rfl, rfl, @WkO.rfl _⟩, ?_⟩ | refine HeapOK.acc rfl rfl ?_)) rfl rfl ?_
  refine M.go rfl ?_
  refine M.condN rfl (fun hn => absurd rfl hn) (fun _ => ?_)
  refine M.go rfl ?_
  rw [u8P_len]
  refine M.use trivial (gaddi_0 room first en o  L lc F2 c2 (chA (sealB (recB n b))) [] X Y n z b cb ((sealB (recB n b)).length : Int)  hXl hYl (by omega) he ⟨by omega, by omega⟩) [(0, 0), (1, 1), (2, 2), (3, 3), (4, 6), (5, 4), (6, 5)] rfl rfl rfl (by repeat' (first | exact True.intro | refine hpC rfl rfl rfl ?_ | refine ⟨⟨_, _, _, rfl, rfl, rfl, @WkO.rfl _⟩, ?_⟩ | refine HeapOK.acc rfl rfl ?_)) rfl rfl ?_
  refine M.go rfl ?_
  exact M.ret (M.go rfl (M.done (finQ.ret [(0, 0), (1, 1), (2, 2), (3, 3), (4, 4), (5, 5), (6, 6)] rfl rfl rfl (by first | exact Wk.rfl | exact Wk.uncap | exact Wk.nil | exact Wk.b1 rfl | exact Wk.t2 Wk.rfl (Wk.b1 rfl)) (by repeat' (first | exact True.intro | refine hpC rfl rfl rfl ?_ | refine ⟨⟨_, _, _, rfl, rfl, rfl, @WkO.rfl _⟩, ?_⟩ | refine HeapOK.acc rfl rfl ?_)))))
theorem gapp0i1_spec (room first en : Int) (o m : Nat) (L : FS) (lc : Nat) (F : FS) (c : Nat) (X Y : List PC) (n : Int) (hn1 : 1 ≤ n ∧ n ≤ 2000000000000000) (hnl : n = first + m) (hXl : o + m < X.length) (hYl : o + m < Y.length) (hm : m ≤ 100000) (h0 : 0 < m) (hf : 0 ≤ first ∧ first ≤ 1200000000000000) (z : Bool) (b : List Int) (cb : Option Nat) (hB : Bytes b) (hb : b.length ≤ 30000) (he : 0 ≤ en ∧ en ≤ 1000000000) (hF : FOK F c) (hr : room ≤ 100000000000) (hroom : ((usedN F + (sealB (recB n b)).length : Nat) : Int) ≤ room) (hfile : (findP [119] F).isSome = true ∨ F.length < 64) (F2 : FS) (c2 : Nat)
    (hdo : CallS Try.prog base 66 [.c (.mp 0), .agg ((chX 0 [119] [] (fP false (sealB (recB n b)) none) 0).map XC.p), .c (.p (.int .i64 (sealB (recB n b)).length))] ⟨[(0, some (fM F c))], 1⟩ (.tup []) ⟨[(0, some (fM F2 c2))], 1⟩) :
    CallS Try.prog base 21 [.c (.ptr 0 0), .c (.p (.int .i64 n)), .c (.p (.tz z 1 (u8P b) cb))] (hG0 4 5 6 room first en o m L lc F c X Y) (.c (.p (.int .i64 0))) (hG1 6 4 5 7 room first (en + (sealB (recB n b)).length) o (m + 1) L lc F2 c2 ((chA (sealB (recB n b)))) ([]) (X.set (o + m) (fP z b none)) (Y.set (o + m) (.int .i64 en))) := by
  have hlb : (u8P b).length = b.length := u8P_len b
  have hnB := numB_len (n := n) (by omega) (by omega)
  have hrl : (recB n b).length ≤ 65536 := by simp [recB]; omega
  have hsl : (sealB (recB n b)).length = 8 + (recB n b).length := seal_len hrl
  have hsl2 : (sealB (recB n b)).length ≤ 40000 := by rw [hsl]; simp [recB]; omega
  refine CallS.of noNG lWap.2 rfl (M.start (M.go rfl ?_))
  refine M.dec rfl (fun hn => absurd hn (by omega)) (fun _ => ?_)
  refine M.go rfl ?_
  refine M.dec rfl (fun _ => ?_) (fun hn => absurd (by omega) hn)
  refine M.go rfl ?_
  obtain ⟨m, rfl⟩ : ∃ j, m = j + 1 := ⟨m - 1, by omega⟩
  refine M.use (by first | exact True.intro | exact rfl) (glast0_1 room first en o m L lc F c X Y (by omega) ⟨hf.1, by omega⟩) [(0, 0), (1, 1), (2, 2), (3, 3), (4, 4), (5, 5)] rfl rfl rfl (by repeat' (first | exact True.intro | refine hpC rfl rfl rfl ?_ | refine ⟨⟨_, _, _, rfl, rfl, rfl, @WkO.rfl _⟩, ?_⟩ | refine HeapOK.acc rfl rfl ?_)) rfl rfl ?_
  refine M.go rfl ?_
  rw [wr64 (n := first + (m : Int) + 1) (by omega) (by omega)]
  refine M.condN rfl (fun hn => absurd (by omega) hn) (fun _ => ?_)
  refine M.go rfl ?_
  refine M.cond rfl (fun hn => absurd hn (by rw [hlb]; omega)) (fun _ => ?_)
  refine M.go rfl ?_
  refine M.use0 trivial (wseal_spec n ⟨by omega, by omega⟩ z b cb hB hrl) rfl rfl rfl ?_
  refine M.go rfl ?_
  refine M.use trivial (append0_spec room L lc F c [119] false (sealB (recB n b)) none may_w hF hr hroom hfile F2 c2 hdo) [(0, 1), (1, 2), (2, 3)] rfl rfl rfl (by repeat' (first | exact True.intro | refine hpC rfl rfl rfl ?_ | refine ⟨⟨_, _, _, rfl, rfl, rfl, @WkO.rfl _⟩, ?_⟩ | refine HeapOK.acc rfl rfl ?_)) rfl rfl ?_
  refine M.go rfl ?_
  refine M.condN rfl (fun hn => absurd rfl hn) (fun _ => ?_)
  refine M.go rfl ?_
  rw [u8P_len]
  refine M.use trivial (gaddi_1 room first en o (m + 1) L lc F2 c2 (chA (sealB (recB n b))) [] X Y n z b cb ((sealB (recB n b)).length : Int) hm hXl hYl (by omega) he ⟨by omega, by omega⟩ h0) [(0, 0), (1, 1), (2, 2), (3, 3), (4, 6), (5, 4), (6, 5)] rfl rfl rfl (by repeat' (first | exact True.intro | refine hpC rfl rfl rfl ?_ | refine ⟨⟨_, _, _, rfl, rfl, rfl, @WkO.rfl _⟩, ?_⟩ | refine HeapOK.acc rfl rfl ?_)) rfl rfl ?_
  refine M.go rfl ?_
  exact M.ret (M.go rfl (M.done (finQ.ret [(0, 0), (1, 1), (2, 2), (3, 3), (4, 4), (5, 5), (6, 6)] rfl rfl rfl (by first | exact Wk.rfl | exact Wk.uncap | exact Wk.nil | exact Wk.b1 rfl | exact Wk.t2 Wk.rfl (Wk.b1 rfl)) (by repeat' (first | exact True.intro | refine hpC rfl rfl rfl ?_ | refine ⟨⟨_, _, _, rfl, rfl, rfl, @WkO.rfl _⟩, ?_⟩ | refine HeapOK.acc rfl rfl ?_)))))
theorem gapp0g0_spec (room first en : Int) (o : Nat) (L : FS) (lc : Nat) (F : FS) (c : Nat) (X Y : List PC) (n : Int) (hn1 : 1 ≤ n ∧ n ≤ 2000000000000000) (hXl : o + 0 = X.length) (hYl : o + 0 = Y.length) (z : Bool) (b : List Int) (cb : Option Nat) (hB : Bytes b) (hb : b.length ≤ 30000) (he : 0 ≤ en ∧ en ≤ 1000000000) (hF : FOK F c) (hr : room ≤ 100000000000) (hroom : ((usedN F + (sealB (recB n b)).length : Nat) : Int) ≤ room) (hfile : (findP [119] F).isSome = true ∨ F.length < 64) (F2 : FS) (c2 : Nat)
    (hdo : CallS Try.prog base 66 [.c (.mp 0), .agg ((chX 0 [119] [] (fP false (sealB (recB n b)) none) 0).map XC.p), .c (.p (.int .i64 (sealB (recB n b)).length))] ⟨[(0, some (fM F c))], 1⟩ (.tup []) ⟨[(0, some (fM F2 c2))], 1⟩) :
    CallS Try.prog base 21 [.c (.ptr 0 0), .c (.p (.int .i64 n)), .c (.p (.tz z 1 (u8P b) cb))] (hG0 4 5 6 room first en o 0 L lc F c X Y) (.c (.p (.int .i64 0))) (hG1 6 7 8 9 room n (en + (sealB (recB n b)).length) 0 (0 + 1) L lc F2 c2 ((chA (sealB (recB n b)))) ([]) (X.drop o ++ [fP z b none]) (Y.drop o ++ [.int .i64 en])) := by
  have hlb : (u8P b).length = b.length := u8P_len b
  have hnB := numB_len (n := n) (by omega) (by omega)
  have hrl : (recB n b).length ≤ 65536 := by simp [recB]; omega
  have hsl : (sealB (recB n b)).length = 8 + (recB n b).length := seal_len hrl
  have hsl2 : (sealB (recB n b)).length ≤ 40000 := by rw [hsl]; simp [recB]; omega
  refine CallS.of noNG lWap.2 rfl (M.start (M.go rfl ?_))
  refine M.dec rfl (fun hn => absurd hn (by omega)) (fun _ => ?_)
  refine M.go rfl ?_
  refine M.dec rfl (fun hn => absurd hn (by simp)) (fun _ => ?_)
  refine M.go rfl ?_
  refine M.cond rfl (fun hn => absurd hn (by rw [hlb]; omega)) (fun _ => ?_)
  refine M.go rfl ?_
  refine M.use0 trivial (wseal_spec n ⟨by omega, by omega⟩ z b cb hB hrl) rfl rfl rfl ?_
  refine M.go rfl ?_
  refine M.use trivial (append0_spec room L lc F c [119] false (sealB (recB n b)) none may_w hF hr hroom hfile F2 c2 hdo) [(0, 1), (1, 2), (2, 3)] rfl rfl rfl (by repeat' (first | exact True.intro | refine hpC rfl rfl rfl ?_ | refine ⟨⟨_, _, _, rfl, rfl, rfl, @WkO.rfl _⟩, ?_⟩ | refine HeapOK.acc rfl rfl ?_)) rfl rfl ?_
  refine M.go rfl ?_
  refine M.condN rfl (fun hn => absurd rfl hn) (fun _ => ?_)
  refine M.go rfl ?_
  rw [u8P_len]
  refine M.use trivial (gaddg_0 room first en o  L lc F2 c2 (chA (sealB (recB n b))) [] X Y n z b cb ((sealB (recB n b)).length : Int)  hXl hYl (by omega) he ⟨by omega, by omega⟩) [(0, 0), (1, 1), (2, 2), (3, 3), (4, 6), (5, 4), (6, 5)] rfl rfl rfl (by repeat' (first | exact True.intro | refine hpC rfl rfl rfl ?_ | refine ⟨⟨_, _, _, rfl, rfl, rfl, @WkO.rfl _⟩, ?_⟩ | refine HeapOK.acc rfl rfl ?_)) rfl rfl ?_
  refine M.go rfl ?_
  exact M.ret (M.go rfl (M.done (finQ.ret [(0, 0), (1, 1), (2, 2), (3, 3), (4, 4), (5, 5), (6, 6), (7, 7), (8, 8)] rfl rfl rfl (by first | exact Wk.rfl | exact Wk.uncap | exact Wk.nil | exact Wk.b1 rfl | exact Wk.t2 Wk.rfl (Wk.b1 rfl)) (by repeat' (first | exact True.intro | refine hpC rfl rfl rfl ?_ | refine ⟨⟨_, _, _, rfl, rfl, rfl, @WkO.rfl _⟩, ?_⟩ | refine HeapOK.acc rfl rfl ?_)))))
theorem gapp0g1_spec (room first en : Int) (o m : Nat) (L : FS) (lc : Nat) (F : FS) (c : Nat) (X Y : List PC) (n : Int) (hn1 : 1 ≤ n ∧ n ≤ 2000000000000000) (hnl : n = first + m) (hXl : o + m = X.length) (hYl : o + m = Y.length) (hm : m ≤ 100000) (h0 : 0 < m) (hf : 0 ≤ first ∧ first ≤ 1200000000000000) (z : Bool) (b : List Int) (cb : Option Nat) (hB : Bytes b) (hb : b.length ≤ 30000) (he : 0 ≤ en ∧ en ≤ 1000000000) (hF : FOK F c) (hr : room ≤ 100000000000) (hroom : ((usedN F + (sealB (recB n b)).length : Nat) : Int) ≤ room) (hfile : (findP [119] F).isSome = true ∨ F.length < 64) (F2 : FS) (c2 : Nat)
    (hdo : CallS Try.prog base 66 [.c (.mp 0), .agg ((chX 0 [119] [] (fP false (sealB (recB n b)) none) 0).map XC.p), .c (.p (.int .i64 (sealB (recB n b)).length))] ⟨[(0, some (fM F c))], 1⟩ (.tup []) ⟨[(0, some (fM F2 c2))], 1⟩) :
    CallS Try.prog base 21 [.c (.ptr 0 0), .c (.p (.int .i64 n)), .c (.p (.tz z 1 (u8P b) cb))] (hG0 4 5 6 room first en o m L lc F c X Y) (.c (.p (.int .i64 0))) (hG1 6 7 8 9 room first (en + (sealB (recB n b)).length) 0 (m + 1) L lc F2 c2 ((chA (sealB (recB n b)))) ([]) (X.drop o ++ [fP z b none]) (Y.drop o ++ [.int .i64 en])) := by
  have hlb : (u8P b).length = b.length := u8P_len b
  have hnB := numB_len (n := n) (by omega) (by omega)
  have hrl : (recB n b).length ≤ 65536 := by simp [recB]; omega
  have hsl : (sealB (recB n b)).length = 8 + (recB n b).length := seal_len hrl
  have hsl2 : (sealB (recB n b)).length ≤ 40000 := by rw [hsl]; simp [recB]; omega
  refine CallS.of noNG lWap.2 rfl (M.start (M.go rfl ?_))
  refine M.dec rfl (fun hn => absurd hn (by omega)) (fun _ => ?_)
  refine M.go rfl ?_
  refine M.dec rfl (fun _ => ?_) (fun hn => absurd (by omega) hn)
  refine M.go rfl ?_
  obtain ⟨m, rfl⟩ : ∃ j, m = j + 1 := ⟨m - 1, by omega⟩
  refine M.use (by first | exact True.intro | exact rfl) (glast0_1 room first en o m L lc F c X Y (by omega) ⟨hf.1, by omega⟩) [(0, 0), (1, 1), (2, 2), (3, 3), (4, 4), (5, 5)] rfl rfl rfl (by repeat' (first | exact True.intro | refine hpC rfl rfl rfl ?_ | refine ⟨⟨_, _, _, rfl, rfl, rfl, @WkO.rfl _⟩, ?_⟩ | refine HeapOK.acc rfl rfl ?_)) rfl rfl ?_
  refine M.go rfl ?_
  rw [wr64 (n := first + (m : Int) + 1) (by omega) (by omega)]
  refine M.condN rfl (fun hn => absurd (by omega) hn) (fun _ => ?_)
  refine M.go rfl ?_
  refine M.cond rfl (fun hn => absurd hn (by rw [hlb]; omega)) (fun _ => ?_)
  refine M.go rfl ?_
  refine M.use0 trivial (wseal_spec n ⟨by omega, by omega⟩ z b cb hB hrl) rfl rfl rfl ?_
  refine M.go rfl ?_
  refine M.use trivial (append0_spec room L lc F c [119] false (sealB (recB n b)) none may_w hF hr hroom hfile F2 c2 hdo) [(0, 1), (1, 2), (2, 3)] rfl rfl rfl (by repeat' (first | exact True.intro | refine hpC rfl rfl rfl ?_ | refine ⟨⟨_, _, _, rfl, rfl, rfl, @WkO.rfl _⟩, ?_⟩ | refine HeapOK.acc rfl rfl ?_)) rfl rfl ?_
  refine M.go rfl ?_
  refine M.condN rfl (fun hn => absurd rfl hn) (fun _ => ?_)
  refine M.go rfl ?_
  rw [u8P_len]
  refine M.use trivial (gaddg_1 room first en o (m + 1) L lc F2 c2 (chA (sealB (recB n b))) [] X Y n z b cb ((sealB (recB n b)).length : Int) hm hXl hYl (by omega) he ⟨by omega, by omega⟩ h0) [(0, 0), (1, 1), (2, 2), (3, 3), (4, 6), (5, 4), (6, 5)] rfl rfl rfl (by repeat' (first | exact True.intro | refine hpC rfl rfl rfl ?_ | refine ⟨⟨_, _, _, rfl, rfl, rfl, @WkO.rfl _⟩, ?_⟩ | refine HeapOK.acc rfl rfl ?_)) rfl rfl ?_
  refine M.go rfl ?_
  exact M.ret (M.go rfl (M.done (finQ.ret [(0, 0), (1, 1), (2, 2), (3, 3), (4, 4), (5, 5), (6, 6), (7, 7), (8, 8)] rfl rfl rfl (by first | exact Wk.rfl | exact Wk.uncap | exact Wk.nil | exact Wk.b1 rfl | exact Wk.t2 Wk.rfl (Wk.b1 rfl)) (by repeat' (first | exact True.intro | refine hpC rfl rfl rfl ?_ | refine ⟨⟨_, _, _, rfl, rfl, rfl, @WkO.rfl _⟩, ?_⟩ | refine HeapOK.acc rfl rfl ?_)))))
theorem gapp1i0_spec (room first en : Int) (o : Nat) (L : FS) (lc : Nat) (F : FS) (c : Nat) (w : PC) (W : List PC) (X Y : List PC) (n : Int) (hn1 : 1 ≤ n ∧ n ≤ 2000000000000000) (hXl : o + 0 < X.length) (hYl : o + 0 < Y.length) (hW : W.length ≤ 1000000) (z : Bool) (b : List Int) (cb : Option Nat) (hB : Bytes b) (hb : b.length ≤ 30000) (he : 0 ≤ en ∧ en ≤ 1000000000) (hF : FOK F c) (hr : room ≤ 100000000000) (hroom : ((usedN F + (sealB (recB n b)).length : Nat) : Int) ≤ room) (hfile : (findP [119] F).isSome = true ∨ F.length < 64) (F2 : FS) (c2 : Nat)
    (hdo : CallS Try.prog base 66 [.c (.mp 0), .agg ((chX 0 [119] [] (fP false (sealB (recB n b)) none) 0).map XC.p), .c (.p (.int .i64 (sealB (recB n b)).length))] ⟨[(0, some (fM F c))], 1⟩ (.tup []) ⟨[(0, some (fM F2 c2))], 1⟩) :
    CallS Try.prog base 21 [.c (.ptr 0 0), .c (.p (.int .i64 n)), .c (.p (.tz z 1 (u8P b) cb))] (hG1 4 5 6 7 room first en o 0 L lc F c w W X Y) (.c (.p (.int .i64 0))) (hG1 7 5 6 8 room n (en + (sealB (recB n b)).length) o (0 + 1) L lc F2 c2 w (W ++ [(chA (sealB (recB n b)))]) (X.set (o + 0) (fP z b none)) (Y.set (o + 0) (.int .i64 en))) := by
  have hlb : (u8P b).length = b.length := u8P_len b
  have hnB := numB_len (n := n) (by omega) (by omega)
  have hrl : (recB n b).length ≤ 65536 := by simp [recB]; omega
  have hsl : (sealB (recB n b)).length = 8 + (recB n b).length := seal_len hrl
  have hsl2 : (sealB (recB n b)).length ≤ 40000 := by rw [hsl]; simp [recB]; omega
  refine CallS.of noNG lWap.2 rfl (M.start (M.go rfl ?_))
  refine M.dec rfl (fun hn => absurd hn (by omega)) (fun _ => ?_)
  refine M.go rfl ?_
  refine M.dec rfl (fun hn => absurd hn (by simp)) (fun _ => ?_)
  refine M.go rfl ?_
  refine M.cond rfl (fun hn => absurd hn (by rw [hlb]; omega)) (fun _ => ?_)
  refine M.go rfl ?_
  refine M.use0 trivial (wseal_spec n ⟨by omega, by omega⟩ z b cb hB hrl) rfl rfl rfl ?_
  refine M.go rfl ?_
  refine M.use trivial (append1_spec room L lc F c w W hW [119] false (sealB (recB n b)) none may_w hF hr hroom hfile F2 c2 hdo) [(0, 1), (1, 2), (2, 3), (3, 4)] rfl rfl rfl (by repeat' (first | exact True.intro | refine hpC rfl rfl rfl ?_ | refine ⟨⟨_, _, _, rfl, rfl, rfl, @WkO.rfl _⟩, ?_⟩ | refine HeapOK.acc rfl rfl ?_)) rfl rfl ?_
  refine M.go rfl ?_
  refine M.condN rfl (fun hn => absurd rfl hn) (fun _ => ?_)
  refine M.go rfl ?_
  rw [u8P_len]
  refine M.use trivial (gaddi_0 room first en o  L lc F2 c2 w (W ++ [(chA (sealB (recB n b)))]) X Y n z b cb ((sealB (recB n b)).length : Int)  hXl hYl (by omega) he ⟨by omega, by omega⟩) [(0, 0), (1, 1), (2, 2), (3, 3), (4, 7), (5, 5), (6, 6)] rfl rfl rfl (by repeat' (first | exact True.intro | refine hpC rfl rfl rfl ?_ | refine ⟨⟨_, _, _, rfl, rfl, rfl, @WkO.rfl _⟩, ?_⟩ | refine HeapOK.acc rfl rfl ?_)) rfl rfl ?_
  refine M.go rfl ?_
  exact M.ret (M.go rfl (M.done (finQ.ret [(0, 0), (1, 1), (2, 2), (3, 3), (4, 4), (5, 5), (6, 6), (7, 7)] rfl rfl rfl (by first | exact Wk.rfl | exact Wk.uncap | exact Wk.nil | exact Wk.b1 rfl | exact Wk.t2 Wk.rfl (Wk.b1 rfl)) (by repeat' (first | exact True.intro | refine hpC rfl rfl rfl ?_ | refine ⟨⟨_, _, _, rfl, rfl, rfl, @WkO.rfl _⟩, ?_⟩ | refine HeapOK.acc rfl rfl ?_)))))
theorem gapp1i1_spec (room first en : Int) (o m : Nat) (L : FS) (lc : Nat) (F : FS) (c : Nat) (w : PC) (W : List PC) (X Y : List PC) (n : Int) (hn1 : 1 ≤ n ∧ n ≤ 2000000000000000) (hnl : n = first + m) (hXl : o + m < X.length) (hYl : o + m < Y.length) (hm : m ≤ 100000) (h0 : 0 < m) (hf : 0 ≤ first ∧ first ≤ 1200000000000000) (hW : W.length ≤ 1000000) (z : Bool) (b : List Int) (cb : Option Nat) (hB : Bytes b) (hb : b.length ≤ 30000) (he : 0 ≤ en ∧ en ≤ 1000000000) (hF : FOK F c) (hr : room ≤ 100000000000) (hroom : ((usedN F + (sealB (recB n b)).length : Nat) : Int) ≤ room) (hfile : (findP [119] F).isSome = true ∨ F.length < 64) (F2 : FS) (c2 : Nat)
    (hdo : CallS Try.prog base 66 [.c (.mp 0), .agg ((chX 0 [119] [] (fP false (sealB (recB n b)) none) 0).map XC.p), .c (.p (.int .i64 (sealB (recB n b)).length))] ⟨[(0, some (fM F c))], 1⟩ (.tup []) ⟨[(0, some (fM F2 c2))], 1⟩) :
    CallS Try.prog base 21 [.c (.ptr 0 0), .c (.p (.int .i64 n)), .c (.p (.tz z 1 (u8P b) cb))] (hG1 4 5 6 7 room first en o m L lc F c w W X Y) (.c (.p (.int .i64 0))) (hG1 7 5 6 8 room first (en + (sealB (recB n b)).length) o (m + 1) L lc F2 c2 w (W ++ [(chA (sealB (recB n b)))]) (X.set (o + m) (fP z b none)) (Y.set (o + m) (.int .i64 en))) := by
  have hlb : (u8P b).length = b.length := u8P_len b
  have hnB := numB_len (n := n) (by omega) (by omega)
  have hrl : (recB n b).length ≤ 65536 := by simp [recB]; omega
  have hsl : (sealB (recB n b)).length = 8 + (recB n b).length := seal_len hrl
  have hsl2 : (sealB (recB n b)).length ≤ 40000 := by rw [hsl]; simp [recB]; omega
  refine CallS.of noNG lWap.2 rfl (M.start (M.go rfl ?_))
  refine M.dec rfl (fun hn => absurd hn (by omega)) (fun _ => ?_)
  refine M.go rfl ?_
  refine M.dec rfl (fun _ => ?_) (fun hn => absurd (by omega) hn)
  refine M.go rfl ?_
  obtain ⟨m, rfl⟩ : ∃ j, m = j + 1 := ⟨m - 1, by omega⟩
  refine M.use (by first | exact True.intro | exact rfl) (glast1_1 room first en o m L lc F c w W X Y (by omega) ⟨hf.1, by omega⟩) [(0, 0), (1, 1), (2, 2), (3, 3), (4, 4), (5, 5), (6, 6)] rfl rfl rfl (by repeat' (first | exact True.intro | refine hpC rfl rfl rfl ?_ | refine ⟨⟨_, _, _, rfl, rfl, rfl, @WkO.rfl _⟩, ?_⟩ | refine HeapOK.acc rfl rfl ?_)) rfl rfl ?_
  refine M.go rfl ?_
  rw [wr64 (n := first + (m : Int) + 1) (by omega) (by omega)]
  refine M.condN rfl (fun hn => absurd (by omega) hn) (fun _ => ?_)
  refine M.go rfl ?_
  refine M.cond rfl (fun hn => absurd hn (by rw [hlb]; omega)) (fun _ => ?_)
  refine M.go rfl ?_
  refine M.use0 trivial (wseal_spec n ⟨by omega, by omega⟩ z b cb hB hrl) rfl rfl rfl ?_
  refine M.go rfl ?_
  refine M.use trivial (append1_spec room L lc F c w W hW [119] false (sealB (recB n b)) none may_w hF hr hroom hfile F2 c2 hdo) [(0, 1), (1, 2), (2, 3), (3, 4)] rfl rfl rfl (by repeat' (first | exact True.intro | refine hpC rfl rfl rfl ?_ | refine ⟨⟨_, _, _, rfl, rfl, rfl, @WkO.rfl _⟩, ?_⟩ | refine HeapOK.acc rfl rfl ?_)) rfl rfl ?_
  refine M.go rfl ?_
  refine M.condN rfl (fun hn => absurd rfl hn) (fun _ => ?_)
  refine M.go rfl ?_
  rw [u8P_len]
  refine M.use trivial (gaddi_1 room first en o (m + 1) L lc F2 c2 w (W ++ [(chA (sealB (recB n b)))]) X Y n z b cb ((sealB (recB n b)).length : Int) hm hXl hYl (by omega) he ⟨by omega, by omega⟩ h0) [(0, 0), (1, 1), (2, 2), (3, 3), (4, 7), (5, 5), (6, 6)] rfl rfl rfl (by repeat' (first | exact True.intro | refine hpC rfl rfl rfl ?_ | refine ⟨⟨_, _, _, rfl, rfl, rfl, @WkO.rfl _⟩, ?_⟩ | refine HeapOK.acc rfl rfl ?_)) rfl rfl ?_
  refine M.go rfl ?_
  exact M.ret (M.go rfl (M.done (finQ.ret [(0, 0), (1, 1), (2, 2), (3, 3), (4, 4), (5, 5), (6, 6), (7, 7)] rfl rfl rfl (by first | exact Wk.rfl | exact Wk.uncap | exact Wk.nil | exact Wk.b1 rfl | exact Wk.t2 Wk.rfl (Wk.b1 rfl)) (by repeat' (first | exact True.intro | refine hpC rfl rfl rfl ?_ | refine ⟨⟨_, _, _, rfl, rfl, rfl, @WkO.rfl _⟩, ?_⟩ | refine HeapOK.acc rfl rfl ?_)))))
theorem gapp1g0_spec (room first en : Int) (o : Nat) (L : FS) (lc : Nat) (F : FS) (c : Nat) (w : PC) (W : List PC) (X Y : List PC) (n : Int) (hn1 : 1 ≤ n ∧ n ≤ 2000000000000000) (hXl : o + 0 = X.length) (hYl : o + 0 = Y.length) (hW : W.length ≤ 1000000) (z : Bool) (b : List Int) (cb : Option Nat) (hB : Bytes b) (hb : b.length ≤ 30000) (he : 0 ≤ en ∧ en ≤ 1000000000) (hF : FOK F c) (hr : room ≤ 100000000000) (hroom : ((usedN F + (sealB (recB n b)).length : Nat) : Int) ≤ room) (hfile : (findP [119] F).isSome = true ∨ F.length < 64) (F2 : FS) (c2 : Nat)
    (hdo : CallS Try.prog base 66 [.c (.mp 0), .agg ((chX 0 [119] [] (fP false (sealB (recB n b)) none) 0).map XC.p), .c (.p (.int .i64 (sealB (recB n b)).length))] ⟨[(0, some (fM F c))], 1⟩ (.tup []) ⟨[(0, some (fM F2 c2))], 1⟩) :
    CallS Try.prog base 21 [.c (.ptr 0 0), .c (.p (.int .i64 n)), .c (.p (.tz z 1 (u8P b) cb))] (hG1 4 5 6 7 room first en o 0 L lc F c w W X Y) (.c (.p (.int .i64 0))) (hG1 7 8 9 10 room n (en + (sealB (recB n b)).length) 0 (0 + 1) L lc F2 c2 w (W ++ [(chA (sealB (recB n b)))]) (X.drop o ++ [fP z b none]) (Y.drop o ++ [.int .i64 en])) := by
  have hlb : (u8P b).length = b.length := u8P_len b
  have hnB := numB_len (n := n) (by omega) (by omega)
  have hrl : (recB n b).length ≤ 65536 := by simp [recB]; omega
  have hsl : (sealB (recB n b)).length = 8 + (recB n b).length := seal_len hrl
  have hsl2 : (sealB (recB n b)).length ≤ 40000 := by rw [hsl]; simp [recB]; omega
  refine CallS.of noNG lWap.2 rfl (M.start (M.go rfl ?_))
  refine M.dec rfl (fun hn => absurd hn (by omega)) (fun _ => ?_)
  refine M.go rfl ?_
  refine M.dec rfl (fun hn => absurd hn (by simp)) (fun _ => ?_)
  refine M.go rfl ?_
  refine M.cond rfl (fun hn => absurd hn (by rw [hlb]; omega)) (fun _ => ?_)
  refine M.go rfl ?_
  refine M.use0 trivial (wseal_spec n ⟨by omega, by omega⟩ z b cb hB hrl) rfl rfl rfl ?_
  refine M.go rfl ?_
  refine M.use trivial (append1_spec room L lc F c w W hW [119] false (sealB (recB n b)) none may_w hF hr hroom hfile F2 c2 hdo) [(0, 1), (1, 2), (2, 3), (3, 4)] rfl rfl rfl (by repeat' (first | exact True.intro | refine hpC rfl rfl rfl ?_ | refine ⟨⟨_, _, _, rfl, rfl, rfl, @WkO.rfl _⟩, ?_⟩ | refine HeapOK.acc rfl rfl ?_)) rfl rfl ?_
  refine M.go rfl ?_
  refine M.condN rfl (fun hn => absurd rfl hn) (fun _ => ?_)
  refine M.go rfl ?_
  rw [u8P_len]
  refine M.use trivial (gaddg_0 room first en o  L lc F2 c2 w (W ++ [(chA (sealB (recB n b)))]) X Y n z b cb ((sealB (recB n b)).length : Int)  hXl hYl (by omega) he ⟨by omega, by omega⟩) [(0, 0), (1, 1), (2, 2), (3, 3), (4, 7), (5, 5), (6, 6)] rfl rfl rfl (by repeat' (first | exact True.intro | refine hpC rfl rfl rfl ?_ | refine ⟨⟨_, _, _, rfl, rfl, rfl, @WkO.rfl _⟩, ?_⟩ | refine HeapOK.acc rfl rfl ?_)) rfl rfl ?_
  refine M.go rfl ?_
  exact M.ret (M.go rfl (M.done (finQ.ret [(0, 0), (1, 1), (2, 2), (3, 3), (4, 4), (5, 5), (6, 6), (7, 7), (8, 8), (9, 9)] rfl rfl rfl (by first | exact Wk.rfl | exact Wk.uncap | exact Wk.nil | exact Wk.b1 rfl | exact Wk.t2 Wk.rfl (Wk.b1 rfl)) (by repeat' (first | exact True.intro | refine hpC rfl rfl rfl ?_ | refine ⟨⟨_, _, _, rfl, rfl, rfl, @WkO.rfl _⟩, ?_⟩ | refine HeapOK.acc rfl rfl ?_)))))
theorem gapp1g1_spec (room first en : Int) (o m : Nat) (L : FS) (lc : Nat) (F : FS) (c : Nat) (w : PC) (W : List PC) (X Y : List PC) (n : Int) (hn1 : 1 ≤ n ∧ n ≤ 2000000000000000) (hnl : n = first + m) (hXl : o + m = X.length) (hYl : o + m = Y.length) (hm : m ≤ 100000) (h0 : 0 < m) (hf : 0 ≤ first ∧ first ≤ 1200000000000000) (hW : W.length ≤ 1000000) (z : Bool) (b : List Int) (cb : Option Nat) (hB : Bytes b) (hb : b.length ≤ 30000) (he : 0 ≤ en ∧ en ≤ 1000000000) (hF : FOK F c) (hr : room ≤ 100000000000) (hroom : ((usedN F + (sealB (recB n b)).length : Nat) : Int) ≤ room) (hfile : (findP [119] F).isSome = true ∨ F.length < 64) (F2 : FS) (c2 : Nat)
    (hdo : CallS Try.prog base 66 [.c (.mp 0), .agg ((chX 0 [119] [] (fP false (sealB (recB n b)) none) 0).map XC.p), .c (.p (.int .i64 (sealB (recB n b)).length))] ⟨[(0, some (fM F c))], 1⟩ (.tup []) ⟨[(0, some (fM F2 c2))], 1⟩) :
    CallS Try.prog base 21 [.c (.ptr 0 0), .c (.p (.int .i64 n)), .c (.p (.tz z 1 (u8P b) cb))] (hG1 4 5 6 7 room first en o m L lc F c w W X Y) (.c (.p (.int .i64 0))) (hG1 7 8 9 10 room first (en + (sealB (recB n b)).length) 0 (m + 1) L lc F2 c2 w (W ++ [(chA (sealB (recB n b)))]) (X.drop o ++ [fP z b none]) (Y.drop o ++ [.int .i64 en])) := by
  have hlb : (u8P b).length = b.length := u8P_len b
  have hnB := numB_len (n := n) (by omega) (by omega)
  have hrl : (recB n b).length ≤ 65536 := by simp [recB]; omega
  have hsl : (sealB (recB n b)).length = 8 + (recB n b).length := seal_len hrl
  have hsl2 : (sealB (recB n b)).length ≤ 40000 := by rw [hsl]; simp [recB]; omega
  refine CallS.of noNG lWap.2 rfl (M.start (M.go rfl ?_))
  refine M.dec rfl (fun hn => absurd hn (by omega)) (fun _ => ?_)
  refine M.go rfl ?_
  refine M.dec rfl (fun _ => ?_) (fun hn => absurd (by omega) hn)
  refine M.go rfl ?_
  obtain ⟨m, rfl⟩ : ∃ j, m = j + 1 := ⟨m - 1, by omega⟩
  refine M.use (by first | exact True.intro | exact rfl) (glast1_1 room first en o m L lc F c w W X Y (by omega) ⟨hf.1, by omega⟩) [(0, 0), (1, 1), (2, 2), (3, 3), (4, 4), (5, 5), (6, 6)] rfl rfl rfl (by repeat' (first | exact True.intro | refine hpC rfl rfl rfl ?_ | refine ⟨⟨_, _, _, rfl, rfl, rfl, @WkO.rfl _⟩, ?_⟩ | refine HeapOK.acc rfl rfl ?_)) rfl rfl ?_
  refine M.go rfl ?_
  rw [wr64 (n := first + (m : Int) + 1) (by omega) (by omega)]
  refine M.condN rfl (fun hn => absurd (by omega) hn) (fun _ => ?_)
  refine M.go rfl ?_
  refine M.cond rfl (fun hn => absurd hn (by rw [hlb]; omega)) (fun _ => ?_)
  refine M.go rfl ?_
  refine M.use0 trivial (wseal_spec n ⟨by omega, by omega⟩ z b cb hB hrl) rfl rfl rfl ?_
  refine M.go rfl ?_
  refine M.use trivial (append1_spec room L lc F c w W hW [119] false (sealB (recB n b)) none may_w hF hr hroom hfile F2 c2 hdo) [(0, 1), (1, 2), (2, 3), (3, 4)] rfl rfl rfl (by repeat' (first | exact True.intro | refine hpC rfl rfl rfl ?_ | refine ⟨⟨_, _, _, rfl, rfl, rfl, @WkO.rfl _⟩, ?_⟩ | refine HeapOK.acc rfl rfl ?_)) rfl rfl ?_
  refine M.go rfl ?_
  refine M.condN rfl (fun hn => absurd rfl hn) (fun _ => ?_)
  refine M.go rfl ?_
  rw [u8P_len]
  refine M.use trivial (gaddg_1 room first en o (m + 1) L lc F2 c2 w (W ++ [(chA (sealB (recB n b)))]) X Y n z b cb ((sealB (recB n b)).length : Int) hm hXl hYl (by omega) he ⟨by omega, by omega⟩ h0) [(0, 0), (1, 1), (2, 2), (3, 3), (4, 7), (5, 5), (6, 6)] rfl rfl rfl (by repeat' (first | exact True.intro | refine hpC rfl rfl rfl ?_ | refine ⟨⟨_, _, _, rfl, rfl, rfl, @WkO.rfl _⟩, ?_⟩ | refine HeapOK.acc rfl rfl ?_)) rfl rfl ?_
  refine M.go rfl ?_
  exact M.ret (M.go rfl (M.done (finQ.ret [(0, 0), (1, 1), (2, 2), (3, 3), (4, 4), (5, 5), (6, 6), (7, 7), (8, 8), (9, 9)] rfl rfl rfl (by first | exact Wk.rfl | exact Wk.uncap | exact Wk.nil | exact Wk.b1 rfl | exact Wk.t2 Wk.rfl (Wk.b1 rfl)) (by repeat' (first | exact True.intro | refine hpC rfl rfl rfl ?_ | refine ⟨⟨_, _, _, rfl, rfl, rfl, @WkO.rfl _⟩, ?_⟩ | refine HeapOK.acc rfl rfl ?_)))))
theorem gfrom0_0 (room first en : Int) (o : Nat) (L : FS) (lc : Nat) (F : FS) (c : Nat) (X Y : List PC) (n : Int) (hn : 1 ≤ n) : CallS Try.prog base 25 [.c (.ptr 0 0), .c (.p (.int .i64 n))] (hG0 4 5 6 room first en o 0 L lc F c X Y) (.c (.p (.int .i64 0))) (hG0 4 5 6 room first en o 0 L lc F c X Y) := by
  refine CallS.of noNG lWfr.2 rfl (M.start (M.go rfl ?_))
  refine M.cond rfl (fun hh => absurd hh (by omega)) (fun _ => ?_)
  refine M.go rfl ?_
  refine M.dec rfl (fun _ => ?_) (fun hn => absurd (by simp) hn)
  refine M.go rfl ?_
  exact M.ret (M.go rfl (M.done (finQ.ret [(0, 0), (1, 1), (2, 2), (3, 3), (4, 4), (5, 5)] rfl rfl rfl (by first | exact Wk.rfl | exact Wk.uncap | exact Wk.nil | exact Wk.b1 rfl | exact Wk.t2 Wk.rfl (Wk.b1 rfl)) (by repeat' (first | exact True.intro | refine hpC rfl rfl rfl ?_ | refine ⟨⟨_, _, _, rfl, rfl, rfl, @WkO.rfl _⟩, ?_⟩ | refine HeapOK.acc rfl rfl ?_)))))
theorem gfrom0_n (room first en : Int) (o m : Nat) (L : FS) (lc : Nat) (F : FS) (c : Nat) (X Y : List PC) (n : Int) (hn : 1 ≤ n) (hm : m ≤ 100000) (hf : 0 ≤ first ∧ first ≤ 2000000000000000) (hl : first + m < n) : CallS Try.prog base 25 [.c (.ptr 0 0), .c (.p (.int .i64 n))] (hG0 4 5 6 room first en o (m + 1) L lc F c X Y) (.c (.p (.int .i64 0))) (hG0 4 5 6 room first en o (m + 1) L lc F c X Y) := by
  refine CallS.of noNG lWfr.2 rfl (M.start (M.go rfl ?_))
  refine M.cond rfl (fun hh => absurd hh (by omega)) (fun _ => ?_)
  refine M.go rfl ?_
  refine M.dec rfl (fun hh => absurd hh (by omega)) (fun _ => ?_)
  refine M.go rfl ?_
  refine M.use (by first | exact True.intro | exact rfl) (glast0_1 room first en o m L lc F c X Y hm hf) [(0, 0), (1, 1), (2, 2), (3, 3), (4, 4), (5, 5)] rfl rfl rfl (by repeat' (first | exact True.intro | refine hpC rfl rfl rfl ?_ | refine ⟨⟨_, _, _, rfl, rfl, rfl, @WkO.rfl _⟩, ?_⟩ | refine HeapOK.acc rfl rfl ?_)) rfl rfl ?_
  refine M.go rfl ?_
  refine M.cond rfl (fun _ => ?_) (fun hn => absurd (by omega) hn)
  refine M.go rfl ?_
  exact M.ret (M.go rfl (M.done (finQ.ret [(0, 0), (1, 1), (2, 2), (3, 3), (4, 4), (5, 5)] rfl rfl rfl (by first | exact Wk.rfl | exact Wk.uncap | exact Wk.nil | exact Wk.b1 rfl | exact Wk.t2 Wk.rfl (Wk.b1 rfl)) (by repeat' (first | exact True.intro | refine hpC rfl rfl rfl ?_ | refine ⟨⟨_, _, _, rfl, rfl, rfl, @WkO.rfl _⟩, ?_⟩ | refine HeapOK.acc rfl rfl ?_)))))
theorem gfrom0_y (room first en : Int) (o m : Nat) (L : FS) (lc : Nat) (F : FS) (c : Nat) (X Y : List PC) (n : Int) (hn : 1 ≤ n ∧ n ≤ 2000000000000000) (hm : m ≤ 100000) (hf : 0 ≤ first ∧ first ≤ 2000000000000000) (hl : n ≤ first + m) (k p : Nat) (hk : (k : Int) = if n - first < 0 then 0 else n - first) (z : Bool) (old : List Int) (oc : Option Nat) (hold : findP [119] F = some (fP z old oc)) (hp : p ≤ old.length) (hY : Y[o + k]? = some (.int .i64 (p : Nat))) :
    CallS Try.prog base 25 [.c (.ptr 0 0), .c (.p (.int .i64 n))] (hG0 4 5 6 room first en o (m + 1) L lc F c X Y) (.c (.p (.int .i64 0))) (hG1 6 4 5 7 room first ((p : Nat)) o k L lc (updP [119] (cutF z old p) c F) (updPC [119] (cutF z old p) c F) (chC p) ([]) X Y) := by
  have hkm : k ≤ m := by split at hk <;> omega
  have hmx : maxI (IntKind.i64.wrap (n - first)) 0 = (k : Int) := by
    rw [wr64 (n := n - first) (by omega) (by omega)]
    unfold maxI
    split at hk <;> split <;> omega
  refine CallS.of noNG lWfr.2 rfl (M.start (M.go rfl ?_))
  refine M.cond rfl (fun hh => absurd hh (by omega)) (fun _ => ?_)
  refine M.go rfl ?_
  refine M.dec rfl (fun hh => absurd hh (by omega)) (fun _ => ?_)
  refine M.go rfl ?_
  refine M.use (by first | exact True.intro | exact rfl) (glast0_1 room first en o m L lc F c X Y hm hf) [(0, 0), (1, 1), (2, 2), (3, 3), (4, 4), (5, 5)] rfl rfl rfl (by repeat' (first | exact True.intro | refine hpC rfl rfl rfl ?_ | refine ⟨⟨_, _, _, rfl, rfl, rfl, @WkO.rfl _⟩, ?_⟩ | refine HeapOK.acc rfl rfl ?_)) rfl rfl ?_
  refine M.go rfl ?_
  refine M.cond rfl (fun hh => absurd hh (by omega)) (fun _ => ?_)
  refine M.go rfl ?_
  rw [hmx]
  refine M.regD (MD.go rfl ?_)
  refine MD.op trivial (SOp.ia1 rfl rfl (by omega)) ?_
  refine MD.op trivial (SOp.ld1A rfl rfl hY rfl rfl rfl) ?_
  refine MD.go rfl ?_
  refine MD.use trivial (cut0_spec room L lc F c [119] p z old oc hold hp) [(0, 1), (1, 2), (2, 3)] rfl rfl rfl (by repeat' (first | exact True.intro | refine hpC rfl rfl rfl ?_ | refine ⟨⟨_, _, _, rfl, rfl, rfl, @WkO.rfl _⟩, ?_⟩ | refine HeapOK.acc rfl rfl ?_)) rfl rfl ?_
  refine MD.go rfl ?_
  refine MD.nil mixed (Fnl.nodup rfl) (M.go rfl ?_)
  refine M.condN rfl (fun hn => absurd rfl hn) (fun _ => ?_)
  refine M.go rfl ?_
  refine M.op trivial (SOp.ia1 rfl rfl (by omega)) ?_
  refine M.op trivial (SOp.ld1A rfl rfl hY rfl rfl rfl) ?_
  refine M.go rfl ?_
  refine M.regF (MF.go rfl ?_)
  refine MF.op trivial (SOp.sl1 (l := 0) (r := k) rfl rfl ⟨_, _, rfl, by omega, by omega⟩ (by omega) (by omega)) ?_
  refine MF.go rfl ?_
  refine MF.op trivial (SOp.sl1 (l := 0) (r := k) rfl rfl ⟨_, _, rfl, by omega, by omega⟩ (by omega) (by omega)) ?_
  refine MF.go rfl ?_
  refine MF.nil mixed (Fnl.nodup rfl) rfl ⟨⟨SOp.sl1 (l := 0) (r := k) rfl rfl ⟨_, _, rfl, by omega, by omega⟩ (by omega) (by omega), trivial⟩, trivial⟩ (M.go rfl ?_)
  exact M.ret (M.go rfl (M.done (finQ.ret [(0, 0), (1, 1), (2, 2), (3, 3), (4, 4), (5, 5), (6, 6)] rfl rfl rfl (by first | exact Wk.rfl | exact Wk.uncap | exact Wk.nil | exact Wk.b1 rfl | exact Wk.t2 Wk.rfl (Wk.b1 rfl)) (by repeat' (first | exact True.intro | refine hpC rfl rfl rfl ?_ | refine ⟨⟨_, _, _, rfl, rfl, rfl, @WkO.rfl _⟩, ?_⟩ | refine HeapOK.acc rfl rfl ?_)))))
theorem gfrom1_0 (room first en : Int) (o : Nat) (L : FS) (lc : Nat) (F : FS) (c : Nat) (w : PC) (W : List PC) (X Y : List PC) (n : Int) (hn : 1 ≤ n) : CallS Try.prog base 25 [.c (.ptr 0 0), .c (.p (.int .i64 n))] (hG1 4 5 6 7 room first en o 0 L lc F c w W X Y) (.c (.p (.int .i64 0))) (hG1 4 5 6 7 room first en o 0 L lc F c w W X Y) := by
  refine CallS.of noNG lWfr.2 rfl (M.start (M.go rfl ?_))
  refine M.cond rfl (fun hh => absurd hh (by omega)) (fun _ => ?_)
  refine M.go rfl ?_
  refine M.dec rfl (fun _ => ?_) (fun hn => absurd (by simp) hn)
  refine M.go rfl ?_
  exact M.ret (M.go rfl (M.done (finQ.ret [(0, 0), (1, 1), (2, 2), (3, 3), (4, 4), (5, 5), (6, 6)] rfl rfl rfl (by first | exact Wk.rfl | exact Wk.uncap | exact Wk.nil | exact Wk.b1 rfl | exact Wk.t2 Wk.rfl (Wk.b1 rfl)) (by repeat' (first | exact True.intro | refine hpC rfl rfl rfl ?_ | refine ⟨⟨_, _, _, rfl, rfl, rfl, @WkO.rfl _⟩, ?_⟩ | refine HeapOK.acc rfl rfl ?_)))))
theorem gfrom1_n (room first en : Int) (o m : Nat) (L : FS) (lc : Nat) (F : FS) (c : Nat) (w : PC) (W : List PC) (X Y : List PC) (n : Int) (hn : 1 ≤ n) (hm : m ≤ 100000) (hf : 0 ≤ first ∧ first ≤ 2000000000000000) (hl : first + m < n) : CallS Try.prog base 25 [.c (.ptr 0 0), .c (.p (.int .i64 n))] (hG1 4 5 6 7 room first en o (m + 1) L lc F c w W X Y) (.c (.p (.int .i64 0))) (hG1 4 5 6 7 room first en o (m + 1) L lc F c w W X Y) := by
  refine CallS.of noNG lWfr.2 rfl (M.start (M.go rfl ?_))
  refine M.cond rfl (fun hh => absurd hh (by omega)) (fun _ => ?_)
  refine M.go rfl ?_
  refine M.dec rfl (fun hh => absurd hh (by omega)) (fun _ => ?_)
  refine M.go rfl ?_
  refine M.use (by first | exact True.intro | exact rfl) (glast1_1 room first en o m L lc F c w W X Y hm hf) [(0, 0), (1, 1), (2, 2), (3, 3), (4, 4), (5, 5), (6, 6)] rfl rfl rfl (by repeat' (first | exact True.intro | refine hpC rfl rfl rfl ?_ | refine ⟨⟨_, _, _, rfl, rfl, rfl, @WkO.rfl _⟩, ?_⟩ | refine HeapOK.acc rfl rfl ?_)) rfl rfl ?_
  refine M.go rfl ?_
  refine M.cond rfl (fun _ => ?_) (fun hn => absurd (by omega) hn)
  refine M.go rfl ?_
  exact M.ret (M.go rfl (M.done (finQ.ret [(0, 0), (1, 1), (2, 2), (3, 3), (4, 4), (5, 5), (6, 6)] rfl rfl rfl (by first | exact Wk.rfl | exact Wk.uncap | exact Wk.nil | exact Wk.b1 rfl | exact Wk.t2 Wk.rfl (Wk.b1 rfl)) (by repeat' (first | exact True.intro | refine hpC rfl rfl rfl ?_ | refine ⟨⟨_, _, _, rfl, rfl, rfl, @WkO.rfl _⟩, ?_⟩ | refine HeapOK.acc rfl rfl ?_)))))
theorem gfrom1_y (room first en : Int) (o m : Nat) (L : FS) (lc : Nat) (F : FS) (c : Nat) (w : PC) (W : List PC) (X Y : List PC) (n : Int) (hn : 1 ≤ n ∧ n ≤ 2000000000000000) (hm : m ≤ 100000) (hf : 0 ≤ first ∧ first ≤ 2000000000000000) (hl : n ≤ first + m) (hW : W.length ≤ 1000000) (k p : Nat) (hk : (k : Int) = if n - first < 0 then 0 else n - first) (z : Bool) (old : List Int) (oc : Option Nat) (hold : findP [119] F = some (fP z old oc)) (hp : p ≤ old.length) (hY : Y[o + k]? = some (.int .i64 (p : Nat))) :
    CallS Try.prog base 25 [.c (.ptr 0 0), .c (.p (.int .i64 n))] (hG1 4 5 6 7 room first en o (m + 1) L lc F c w W X Y) (.c (.p (.int .i64 0))) (hG1 7 5 6 8 room first ((p : Nat)) o k L lc (updP [119] (cutF z old p) c F) (updPC [119] (cutF z old p) c F) w (W ++ [chC p]) X Y) := by
  have hkm : k ≤ m := by split at hk <;> omega
  have hmx : maxI (IntKind.i64.wrap (n - first)) 0 = (k : Int) := by
    rw [wr64 (n := n - first) (by omega) (by omega)]
    unfold maxI
    split at hk <;> split <;> omega
  refine CallS.of noNG lWfr.2 rfl (M.start (M.go rfl ?_))
  refine M.cond rfl (fun hh => absurd hh (by omega)) (fun _ => ?_)
  refine M.go rfl ?_
  refine M.dec rfl (fun hh => absurd hh (by omega)) (fun _ => ?_)
  refine M.go rfl ?_
  refine M.use (by first | exact True.intro | exact rfl) (glast1_1 room first en o m L lc F c w W X Y hm hf) [(0, 0), (1, 1), (2, 2), (3, 3), (4, 4), (5, 5), (6, 6)] rfl rfl rfl (by repeat' (first | exact True.intro | refine hpC rfl rfl rfl ?_ | refine ⟨⟨_, _, _, rfl, rfl, rfl, @WkO.rfl _⟩, ?_⟩ | refine HeapOK.acc rfl rfl ?_)) rfl rfl ?_
  refine M.go rfl ?_
  refine M.cond rfl (fun hh => absurd hh (by omega)) (fun _ => ?_)
  refine M.go rfl ?_
  rw [hmx]
  refine M.regD (MD.go rfl ?_)
  refine MD.op trivial (SOp.ia1 rfl rfl (by omega)) ?_
  refine MD.op trivial (SOp.ld1A rfl rfl hY rfl rfl rfl) ?_
  refine MD.go rfl ?_
  refine MD.use trivial (cut1_spec room L lc F c w W hW [119] p z old oc hold hp) [(0, 1), (1, 2), (2, 3), (3, 4)] rfl rfl rfl (by repeat' (first | exact True.intro | refine hpC rfl rfl rfl ?_ | refine ⟨⟨_, _, _, rfl, rfl, rfl, @WkO.rfl _⟩, ?_⟩ | refine HeapOK.acc rfl rfl ?_)) rfl rfl ?_
  refine MD.go rfl ?_
  refine MD.nil mixed (Fnl.nodup rfl) (M.go rfl ?_)
  refine M.condN rfl (fun hn => absurd rfl hn) (fun _ => ?_)
  refine M.go rfl ?_
  refine M.op trivial (SOp.ia1 rfl rfl (by omega)) ?_
  refine M.op trivial (SOp.ld1A rfl rfl hY rfl rfl rfl) ?_
  refine M.go rfl ?_
  refine M.regF (MF.go rfl ?_)
  refine MF.op trivial (SOp.sl1 (l := 0) (r := k) rfl rfl ⟨_, _, rfl, by omega, by omega⟩ (by omega) (by omega)) ?_
  refine MF.go rfl ?_
  refine MF.op trivial (SOp.sl1 (l := 0) (r := k) rfl rfl ⟨_, _, rfl, by omega, by omega⟩ (by omega) (by omega)) ?_
  refine MF.go rfl ?_
  refine MF.nil mixed (Fnl.nodup rfl) rfl ⟨⟨SOp.sl1 (l := 0) (r := k) rfl rfl ⟨_, _, rfl, by omega, by omega⟩ (by omega) (by omega), trivial⟩, trivial⟩ (M.go rfl ?_)
  exact M.ret (M.go rfl (M.done (finQ.ret [(0, 0), (1, 1), (2, 2), (3, 3), (4, 4), (5, 5), (6, 6), (7, 7)] rfl rfl rfl (by first | exact Wk.rfl | exact Wk.uncap | exact Wk.nil | exact Wk.b1 rfl | exact Wk.t2 Wk.rfl (Wk.b1 rfl)) (by repeat' (first | exact True.intro | refine hpC rfl rfl rfl ?_ | refine ⟨⟨_, _, _, rfl, rfl, rfl, @WkO.rfl _⟩, ?_⟩ | refine HeapOK.acc rfl rfl ?_)))))
end Go.Proofs.Ytjlfojgacnphmaa
