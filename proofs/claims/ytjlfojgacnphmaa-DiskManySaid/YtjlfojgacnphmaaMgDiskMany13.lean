/- Texts of this claim, several in one: D8, D9, D10, D11, D12, D14, D15. -/
import Derived.Test.YtjlfojgacnphmaaMgDiskMany12
import Derived.Sort.KeysCollected
namespace Go.Proofs.Ytjlfojgacnphmaa
open Go.RowKit Sim Go Sym
set_option maxRecDepth 100000
set_option linter.unusedVariables false
set_option linter.unusedSimpArgs false
variable {base : Nat}
section
variable {φ : Ph} {h : SH} {w w' : World}
theorem HR.row2 (hr : HR base φ h w) (hb : Below w.heap.size w w') {g : Nat} {o : Obj} (hg : w.heap.size ≤ g) (ho : w'.heap[g]? = some o) (ψ : Ph) (hψ : ψ = ⟨φ.f, fun m => if m = g then some o else φ.fm m⟩) (k : Nat) : HR base ψ h w' ∧ Le φ ψ ∧ Mo k φ ψ h w h w' := by
  subst hψ
  have hfm : ∀ m o', φ.fm m = some o' → m < w.heap.size := fun m o' hm => by
    have := (hr.froz m o' hm).1
    rw [Array.getElem?_eq_some_iff] at this
    exact this.1
  have hle : Le φ ⟨φ.f, fun m => if m = g then some o else φ.fm m⟩ := ⟨fun _ _ h => h, fun m o' hm => by
    have := hfm m o' hm
    show (if m = g then some o else φ.fm m) = some o'
    rw [if_neg (by omega)]; exact hm⟩
  refine ⟨⟨hr.dom, Nat.le_trans hr.lo hb.size, fun b q hq => ?_, fun m o' hm => ?_, hr.inj⟩, hle, ⟨fun b L hb h => h, fun m o' hm => hle.fm m o' hm, hb.os, hb.tape, hb.output, hb.size, fun q hq _ => hb.block q hq, fun b L hL => .inr ⟨b, L, hL, rfl⟩, fun b q L h1 h2 => .inr ⟨b, q, L, h1, h2, rfl⟩, fun m o' hm => ?_⟩⟩
  · obtain ⟨L, h1, h2⟩ := hr.live b q hq
    exact ⟨L, h1, Live.mono hle (hb.block _ h2.lt) h2⟩
  · by_cases e : m = g
    · subst e
      have hm' : some o = some o' := by have : (if m = m then some o else φ.fm m) = some o' := hm; rwa [if_pos rfl] at this
      cases hm'
      refine ⟨ho, fun b L ⟨q, h1, h2, h3⟩ => ?_⟩
      obtain ⟨L1, h4, h5⟩ := hr.live b q h1
      rw [show φ b = some L from h3] at h4; cases h4
      have := h5.lt
      omega
    · have hm' : φ.fm m = some o' := by have : (if m = g then some o else φ.fm m) = some o' := hm; rwa [if_neg e] at this
      exact ⟨(hb.block m (hfm m o' hm')).trans (hr.froz m o' hm').1, (hr.froz m o' hm').2⟩
  · by_cases e : m = g
    · exact .inr (.inl (by omega))
    · exact .inl (by have : (if m = g then some o else φ.fm m) = some o' := hm; rwa [if_neg e] at this)
theorem HR.below (hr : HR base φ h w) (hb : Below w.heap.size w w') (k : Nat) : HR base φ h w' ∧ Mo k φ φ h w h w' := by
  have hfm : ∀ m o', φ.fm m = some o' → m < w.heap.size := fun m o' hm => by
    have := (hr.froz m o' hm).1
    rw [Array.getElem?_eq_some_iff] at this
    exact this.1
  refine ⟨⟨hr.dom, Nat.le_trans hr.lo hb.size, fun b q hq => ?_, fun m o' hm => ⟨(hb.block m (hfm m o' hm)).trans (hr.froz m o' hm).1, (hr.froz m o' hm).2⟩, hr.inj⟩, ⟨fun b L hb h => h, fun m o' hm => hm, hb.os, hb.tape, hb.output, hb.size, fun q hq _ => hb.block q hq, fun b L hL => .inr ⟨b, L, hL, rfl⟩, fun b q L h1 h2 => .inr ⟨b, q, L, h1, h2, rfl⟩, fun m o' hm => .inl hm⟩⟩
  obtain ⟨L, h1, h2⟩ := hr.live b q hq
  exact ⟨L, h1, Live.mono (Le.refl φ) (hb.block _ h2.lt) h2⟩
end
def kb (l : List Nat) : List UInt8 := l.map UInt8.ofNat
theorem kb_of : ∀ l : List UInt8, kb (l.map UInt8.toNat) = l
  | [] => rfl
  | x :: l => by
    have := kb_of l
    simp only [kb, List.map_cons] at this ⊢
    rw [this, UInt8.ofNat_toNat]
def KS (F : FS) : List PC := ((F.map fun e => kb e.2.1).mergeSort (fun x y => decide (x ≤ y))).map fun bs => PC.str (bs.map UInt8.toNat)
theorem KS_len (F : FS) : (KS F).length = F.length := by simp [KS]
theorem ents_of {φ : Ph} : ∀ (F : FS) (l : List MapEntry), All2 (ER φ) ((mK KD.str (pv F)).map fun e => (e.1, e.2.1.sc, e.2.2.sv)) l → l.map (·.born) = F.map (·.1) ∧ ∃ ks : List (List UInt8), l.map (·.key) = ks.map encStr ∧ ks.map (fun k => k.map UInt8.toNat) = F.map (fun e => e.2.1)
  | [], l, h => by
    have := h.length
    simp [mK, pv] at this
    obtain rfl : l = [] := List.eq_nil_of_length_eq_zero this.symm
    exact ⟨rfl, [], rfl, rfl⟩
  | e :: F, l, h => by
    cases l with
    | nil => have := h.length; simp [mK, pv] at this
    | cons x l =>
      have h1 : ER φ (e.1, (XC.p (KD.str.kf e.2.1)).sc, (XV.c (.p e.2.2)).sv) x ∧ All2 (ER φ) ((mK KD.str (pv F)).map fun e => (e.1, e.2.1.sc, e.2.2.sv)) l := h
      obtain ⟨⟨g1, g2, g3⟩, g4⟩ := h1
      obtain ⟨i1, ks, i2, i3⟩ := ents_of F l g4
      have g2' : CR φ (.str e.2.1) x.key := g2
      obtain ⟨s, hs, hs2⟩ := g2'
      exact ⟨by simp [i1, g1], s.data.toList :: ks, by simp [i2, hs, encStr], by simp [i3, hs2]⟩
theorem str_at (bs : List UInt8) (φ : Ph) : CR φ (.str (bs.map UInt8.toNat)) (encStr bs) := ⟨⟨bs.toArray⟩, rfl, by simp⟩
theorem flatE_str : ∀ l : List (List UInt8), flatE 1 (l.map fun bs => PC.str (bs.map UInt8.toNat)) = l.map fun bs => SC.str (bs.map UInt8.toNat)
  | [] => rfl
  | x :: l => by
    have := flatE_str l
    simp only [List.map_cons, flatE] at this ⊢
    rw [this]; rfl
def RT : Value → Option (DataW Unit × List MemPlace) := fun _ => some (.nil, [])
theorem key_str (k : List UInt8) (h : k.length ≤ 1000) : Go.keyOf Try.prog 9 (encStr k) = some (.string k) := by
  have h2 : k.length ≤ maxLen := Nat.le_trans h (by decide)
  have h3 : (⟨k.toArray⟩ : ByteArray).size ≤ maxLen := by show k.toArray.size ≤ maxLen; simpa using h2
  simp [Go.keyOf, Try.underlying9, mapKey, encStr, h3]
theorem rgs : ∀ (l : List MapEntry) (ks : List (List UInt8)), l.map (·.key) = ks.map encStr → (∀ k ∈ ks, k.length ≤ 1000) → (∀ x ∈ l, ∃ y, WideElems.rd Try.prog 9 RT x = some y) ∧ l.map (WideElems.rg Try.prog 9 RT) = ks.map fun k => (Lit.string k, DataW.nil)
  | [], ks, h, _ => by
    cases ks with
    | nil => exact ⟨fun x hx => (by cases hx), rfl⟩
    | cons k ks => cases h
  | x :: l, ks, h, hk => by
    cases ks with
    | nil => cases h
    | cons k ks =>
      simp only [List.map_cons, List.cons.injEq] at h
      obtain ⟨h1, h2⟩ := rgs l ks h.2 fun k hk' => hk k (by simp [hk'])
      have h3 : WideElems.rd Try.prog 9 RT x = some (Lit.string k, DataW.nil) := by
        unfold WideElems.rd
        rw [h.1, key_str k (hk k (by simp))]
        rfl
      refine ⟨fun y hy => ?_, ?_⟩
      · rcases List.mem_cons.1 hy with rfl | hy
        · exact ⟨_, h3⟩
        · exact h1 y hy
      · simp only [List.map_cons, h2, WideElems.rg_of h3]
structure NOK (F : FS) : Prop where
  nd : (F.map (fun e => e.2.1)).Nodup
  len : ∀ e ∈ F, e.2.1.length ≤ 1000
  sz : F.length ≤ 1000000
theorem names_spec (h : HS) (room : Int) (bl : Nat) (x : XC) (F : FS) (c : Nat) (hrow : h.get 0 = some (.row [.p (.int .i64 room), .mp bl, .mp 2, x] true)) (hmap : h.get 2 = some (fM F c)) (hF : FOK F c) (hN : NOK F) : CallS Try.prog base 34 [.c (.ptr 0 0)] h (.c (.p (.tz true 1 (KS F) none))) h := by
  refine ⟨⟨Try.f34, Try.func34, by kernel_rfl, noNG _ _ Try.func34⟩, fun φ args' w ha hr => ?_⟩
  obtain ⟨v0, rfl, hv0⟩ := all2_one ha
  have hv0' : CR φ (.ptr 0 0) v0 := hv0
  obtain ⟨L, hL, rfl⟩ := hv0'
  obtain ⟨L', hL', hlen, cs, E, fr, hheap, hcells, hown⟩ := hr.live 0 _ (get_row hrow)
  rw [hL] at hL'; cases hL'
  obtain ⟨v2, hv2, hc2⟩ := hcells 2 (XC.mp 2).sc rfl
  have hc2' : CR φ (.mp (some 2)) v2 := hc2
  obtain ⟨L2, hL2, rfl⟩ := hc2'
  have hg2 : h.sh.get 2 = some (XO.map (mK KD.str (pv F)) c).so := by rw [HS.get_sh, hmap]; show some (XO.pm _ _).so = _; rw [pm_so, up_pK]
  obtain ⟨L2', hL2', hb2, vs, hheap2, hall⟩ := hr.live 2 _ hg2
  rw [hL2] at hL2'; cases hL2'
  obtain ⟨e1, ks, e2, e3⟩ := ents_of F vs.toList hall
  have hks : ks = F.map fun e => kb e.2.1 := by
    have := congrArg (List.map kb) e3
    rw [List.map_map, List.map_map] at this
    have hid : ks.map (kb ∘ fun k => k.map UInt8.toNat) = ks := by
      conv => rhs; rw [← List.map_id ks]
      exact List.map_congr_left fun k _ => kb_of k
    rw [hid] at this
    exact this
  have hvl : vs.toList.length = F.length := by have := congrArg List.length e1; simpa using this
  have hkn : ks.Nodup := by
    have h1 := hN.nd
    rw [← e3] at h1
    exact (List.pairwise_map.1 h1).imp fun hne e => hne (by rw [e])
  have hkl : ∀ k ∈ ks, k.length ≤ 1000 := fun k hk => by
    rw [hks, List.mem_map] at hk
    obtain ⟨e, he, rfl⟩ := hk
    have := hN.len e he
    simpa [kb] using this
  obtain ⟨q1, q2⟩ := rgs vs.toList ks e2 hkl
  have hfit : WideElems.Fit Try.prog 9 RT vs c := by
    refine ⟨?_, ⟨?_, ?_, ?_⟩, q1⟩
    · rw [← Array.length_toList, hvl]; exact Nat.le_trans hN.sz (by decide)
    · intro y hy
      have h1 : y.born ∈ vs.toList.map (·.born) := List.mem_map.2 ⟨y, hy, rfl⟩
      rw [e1, List.mem_map] at h1
      obtain ⟨e, he, hee⟩ := h1
      rw [← hee]; exact hF.old e he
    · rw [e1]; exact hF.nd
    · rw [e2]; exact List.pairwise_map.2 (hkn.imp fun hne e => hne (encStr_inj e))
  obtain ⟨D0, hD0⟩ : ∃ D0 : DataW Unit, D0 = .map ((vs.toList.map (WideElems.rg Try.prog 9 RT)).foldr DataW.insert []) := ⟨_, rfl⟩
  have hsp := WideShapes.sorted_perm (vs.toList.map (WideElems.rg Try.prog 9 RT))
  have hown2 : w.ownsMap Try.prog 9 RT L2.m vs.size D0 := ⟨vs, c, hheap2, hfit, Nat.le_refl _, hD0⟩
  have hsz : Maps.size D0 = F.length := by
    rw [hD0]
    show List.length _ = _
    rw [hsp.length_eq, List.length_map, hvl]
  have hsk : (strKeys D0).Perm ks := by
    rw [hD0]
    have h1 := hsp.map fun p => strOf p.1
    rw [q2, List.map_map] at h1
    have hid : ks.map ((fun p : Lit × DataW Unit => strOf p.1) ∘ fun k => (Lit.string k, DataW.nil)) = ks := by
      conv => rhs; rw [← List.map_id ks]
      exact List.map_congr_left fun k _ => rfl
    rw [hid] at h1
    rw [q2]
    exact h1
  have hcell : w.cell? ⟨L.m, L.m0 + 0 + 2, none⟩ = some (.map (some L2.m)) := by
    have : w.heap[L.m]? = some (.cells cs E fr) := hheap
    simp [World.cell?, this, hv2]
  refine Calls.mono (names_calls w L.m (L.m0 + 0) L2.m vs.size D0 RT hcell hown2 (by rw [hsz]; exact Nat.le_trans hN.sz (by decide)) (by rw [hsz]; have := hN.sz; omega)) fun en w' hp => ?_
  obtain ⟨v, ss, rfl, hS, hrow2, hnil, hb⟩ := hp
  have hss : ss.mergeSort (fun x y => decide (x ≤ y)) = (F.map fun e => kb e.2.1).mergeSort (fun x y => decide (x ≤ y)) := by
    rw [← hks]; exact mergeSort_of_perm (hS.trans hsk)
  rw [hss] at hrow2
  obtain ⟨M, hM⟩ : ∃ M, M = (F.map fun e => kb e.2.1).mergeSort (fun x y => decide (x ≤ y)) := ⟨_, rfl⟩
  have hKS : KS F = M.map fun bs => PC.str (bs.map UInt8.toNat) := by rw [KS, hM]
  have hMl : M.length = F.length := by rw [hM]; simp
  have hsl : ss.length = F.length := by rw [(hS.trans hsk).length_eq, hks]; simp
  rw [← hM] at hrow2
  rw [hKS]
  by_cases h0 : ss = []
  · have hv := hnil.2 h0
    have hM0 : M = [] := List.eq_nil_of_length_eq_zero (by rw [hMl, ← hsl, h0]; rfl)
    obtain ⟨g1, g2⟩ := HR.below hr hb h.next
    exact ⟨v, φ, rfl, by rw [hM0, hv]; exact (rfl : CR φ .nils (.slice none 0 0)), g1, g2⟩
  · rcases hrow2 with ⟨_, ⟨hv, _⟩ | ⟨g, cap, cur, hv, hbg, hg, hnc, hcm, hcs, htk⟩⟩
    · exact absurd (hnil.1 hv) h0
    · obtain ⟨ψ, hψ⟩ : ∃ ψ : Ph, ψ = ⟨φ.f, fun m => if m = g then some (.cells cur 9 (0, 0)) else φ.fm m⟩ := ⟨_, rfl⟩
      obtain ⟨g1, g2, g3⟩ := HR.row2 hr hb hbg hg ψ hψ h.next
      have hne : M ≠ [] := by intro e; rw [e] at hMl; exact h0 (List.eq_nil_of_length_eq_zero (by rw [hsl, ← hMl]; rfl))
      refine ⟨v, ψ, rfl, ?_, g1, g3⟩
      have hz : (true && (M.map fun bs => PC.str (bs.map UInt8.toNat)).isEmpty) = false := by cases M <;> simp_all
      show CR ψ (PC.tz true 1 (M.map fun bs => PC.str (bs.map UInt8.toNat)) none).sc v
      simp only [PC.sc, hz, cond_false]
      refine ⟨by simp [flatE_len], ⟨g, 0, none⟩, cap, ?_, ?_, ?_, ?_, ?_⟩
      · rw [hv, hsl, List.length_map, hMl]
      · rw [List.length_map, hMl, ← hsl]; exact hnc
      · exact hcm
      · intro c' hc'; cases hc'
      refine CRs.mk fun j x hx => ?_
      rw [flatE_str, List.getElem?_map, Option.map_eq_some_iff] at hx
      obtain ⟨bs, hbs, rfl⟩ := hx
      refine ⟨encStr bs, ?_, str_at bs ψ⟩
      have hj := (List.getElem?_eq_some_iff.1 hbs).1
      have h1 : (cur.toList.take (ss.length * 1))[j]? = some (encStr bs) := by rw [htk, List.getElem?_map, hbs]; rfl
      rw [List.getElem?_take] at h1
      split at h1
      · rw [hψ]
        have h2 : cur[j]? = some (encStr bs) := by simpa using h1
        have hadd : (⟨g, 0, none⟩ : Addr).add (0 + j) = ⟨g, j, none⟩ := by
          simp only [Addr.add, Nat.zero_add]
          split <;> simp_all
        rw [hadd]
        simp [Ph.cell, h2]
      · cases h1
end Go.Proofs.Ytjlfojgacnphmaa

namespace Go.Proofs.Ytjlfojgacnphmaa
open Go.RowKit Sim Go Sym
set_option maxRecDepth 100000
set_option linter.unusedVariables false
set_option linter.unusedSimpArgs false
variable {base : Nat}
theorem apF_ne {z : Bool} {old new : List Int} (h : new ≠ []) : apF z old new = fP false (old ++ new) none := if_neg h
def f1 (name : List Nat) (f : PC) : FS := [(0, name, f)]
theorem f1_ok (name : List Nat) (z : Bool) (bs : List Int) (cp : Option Nat) : FOK (f1 name (fP z bs cp)) 1 := ⟨fun e he => by simp [f1] at he; subst he; simp, by simp [f1], fun e he => by simp [f1] at he; subst he; exact ⟨z, bs, cp, rfl⟩⟩
theorem f0_ok (c : Nat) : FOK [] c := ⟨fun e he => (by cases he), (by simp), fun e he => (by cases he)⟩
theorem do_first (name to : List Nat) (n : Int) (zb : Bool) (b : List Int) (cb : Option Nat) (hb : b.length ≤ 100000000) (h0 : b ≠ []) : CallS Try.prog base 66 [.c (.mp 0), .agg ((chX 0 name to (fP zb b cb) n).map XC.p), .c (.p (.int .i64 b.length))] ⟨[(0, some (fM [] 0))], 1⟩ (.tup []) ⟨[(0, some (fM (f1 name (fP false b none)) 1))], 1⟩ := by
  have := do_app0 (base := base) [] 0 name to n rfl zb b cb b.length (Nat.le_refl _) hb
  rw [List.take_length, apF_ne h0] at this
  exact this
theorem may_a : CallS Try.prog base 70 [.c (.p (.str [97]))] ⟨[], 0⟩ (.c (.p (.bool true))) ⟨[], 0⟩ := CallS.reck (m := 200) (h' := noMem) mixed noNG (by kernel_rfl)
noncomputable def lBg3 : {F : LF // lowerF Try.prog 32 = some F} := ⟨_, rfl⟩
theorem begun3_spec : CallS Try.prog base 32 [] ⟨[], 0⟩ (.c (.p (.bool true))) ⟨[], 0⟩ := by
  refine CallS.of noNG lBg3.2 rfl (M.start (M.go rfl ?_))
  refine M.use trivial (dnew_spec 100) [] rfl rfl rfl trivial rfl rfl ?_
  refine M.go rfl ?_
  refine M.op trivial (SOp.cvO rfl rfl (by decide)) ?_
  refine M.freezeO (i := 11) rfl rfl rfl ?_
  refine M.use trivial (append0_spec (roomI 100) [] 0 [] 0 [97] false [120, 121, 122] (some 3) may_a (f0_ok 0) (by decide) (by decide) (.inr (by decide)) _ _ (do_first [97] [] 0 false [120, 121, 122] none (by decide) (by decide))) [(0, 0), (1, 1), (2, 2)] rfl rfl rfl (by repeat' (first | exact True.intro | refine ⟨⟨_, _, _, rfl, rfl, rfl, WkO.rfl⟩, ?_⟩ | refine HeapOK.acc rfl rfl ?_ | refine HeapOK.es rfl rfl ?_)) rfl rfl ?_
  refine M.go rfl ?_
  have hcr : CrR 0 2 [⟨0, [97], [], false, [120, 121, 122], none, 0⟩] 0 ([], 0) (f1 [97] (fP false [120, 121] none), 1) := by
    refine ⟨_, ?_, rfl⟩
    rw [Cr1, if_neg (by decide), if_pos (by decide)]
    have := Do.new (x := ⟨0, [97], [], false, [120, 121, 122], none, 0⟩) (k := 2) (F := []) (c := 0) rfl (by decide) (by decide) rfl
    rw [apF_ne (by decide)] at this
    exact this
  refine M.use trivial (crash1_spec (roomI 100) [] 0 (f1 [97] (fP false [120, 121, 122] none)) 1 _ _ [⟨0, [97], [], false, [120, 121, 122], none, 0⟩] rfl (by decide) 0 2 _ hcr) [(0, 0), (1, 1), (2, 2), (3, 4)] rfl rfl rfl (by repeat' (first | exact True.intro | refine ⟨⟨_, _, _, rfl, rfl, rfl, WkO.rfl⟩, ?_⟩ | refine HeapOK.acc rfl rfl ?_ | refine HeapOK.es rfl rfl ?_)) rfl rfl ?_
  refine M.go rfl ?_
  refine M.use trivial (read0_spec (roomI 100) (f1 [97] (fP false [120, 121] none)) 1 (f1 [97] (fP false [120, 121] none)) 1 [97] false [120, 121] none rfl (by decide)) [(0, 5), (1, 6), (2, 7)] rfl rfl rfl (by repeat' (first | exact True.intro | refine ⟨⟨_, _, _, rfl, rfl, rfl, WkO.rfl⟩, ?_⟩ | refine HeapOK.acc rfl rfl ?_ | refine HeapOK.es rfl rfl ?_)) rfl rfl ?_
  refine M.go rfl ?_
  refine M.dec rfl (fun _ => ?_) (fun hn => absurd (by decide) hn)
  refine M.go rfl ?_
  refine M.op (by first | exact True.intro | exact rfl) (SOp.cvBS (l := [120, 121]) rfl rfl) ?_
  refine M.go rfl ?_
  refine M.decB rfl (fun _ => ?_) (fun hn => by cases hn)
  refine M.go rfl ?_
  refine M.use (by first | exact True.intro | exact rfl) (used1_spec (roomI 100) [] 0 (f1 [97] (fP false [120, 121, 122] none)) 1 _ _ (f1_ok _ _ _ _) (by decide)) [(0, 0), (1, 1), (2, 2), (3, 4)] rfl rfl rfl (by repeat' (first | exact True.intro | refine ⟨⟨_, _, _, rfl, rfl, rfl, WkO.rfl⟩, ?_⟩ | refine HeapOK.acc rfl rfl ?_ | refine HeapOK.es rfl rfl ?_)) rfl rfl ?_
  refine M.go rfl ?_
  refine M.dec rfl (fun _ => ?_) (fun hn => absurd (by decide) hn)
  refine M.go rfl ?_
  refine M.use (by first | exact True.intro | exact rfl) (waiting1_spec (roomI 100) [] 0 (f1 [97] (fP false [120, 121, 122] none)) 1 _ _) [(0, 0), (1, 1), (2, 2), (3, 4)] rfl rfl rfl (by repeat' (first | exact True.intro | refine ⟨⟨_, _, _, rfl, rfl, rfl, WkO.rfl⟩, ?_⟩ | refine HeapOK.acc rfl rfl ?_ | refine HeapOK.es rfl rfl ?_)) rfl rfl ?_
  refine M.go rfl ?_
  refine M.dec rfl (fun _ => ?_) (fun hn => absurd (by decide) hn)
  refine M.go rfl ?_
  refine M.use (by first | exact True.intro | exact rfl) (remove1_none (roomI 100) [] 0 (f1 [97] (fP false [120, 121, 122] none)) 1 _ _ [98] rfl) [(0, 0), (1, 1), (2, 2), (3, 4)] rfl rfl rfl (by repeat' (first | exact True.intro | refine ⟨⟨_, _, _, rfl, rfl, rfl, WkO.rfl⟩, ?_⟩ | refine HeapOK.acc rfl rfl ?_ | refine HeapOK.es rfl rfl ?_)) rfl rfl ?_
  refine M.go rfl ?_
  refine M.dec rfl (fun _ => ?_) (fun hn => absurd (by decide) hn)
  refine M.go rfl ?_
  refine M.use (by first | exact True.intro | exact rfl) (names_spec (hD1 3 (roomI 100) [] 0 (f1 [97] (fP false [120, 121, 122] none)) 1 _ _) (roomI 100) 1 _ (f1 [97] (fP false [120, 121, 122] none)) 1 rfl rfl (f1_ok _ _ _ _) ⟨by simp [f1], fun e he => by simp [f1] at he; subst he; simp, by simp [f1]⟩) [(0, 0), (1, 1), (2, 2), (3, 4)] rfl rfl rfl (by repeat' (first | exact True.intro | refine ⟨⟨_, _, _, rfl, rfl, rfl, WkO.rfl⟩, ?_⟩ | refine HeapOK.acc rfl rfl ?_ | refine HeapOK.es rfl rfl ?_)) rfl rfl ?_
  refine M.go rfl ?_
  refine M.decC (s := 0) rfl (fun _ => ?_) (fun hn => absurd hn (by rw [KS_len]; decide))
  exact M.ret (M.go rfl (M.done (finQ.ret [] rfl rfl rfl (by first | exact Wk.rfl | exact Wk.uncap | exact Wk.nil | exact Wk.b1 rfl | exact Wk.t2 Wk.rfl (Wk.b1 rfl)) (by repeat' (first | exact True.intro | refine ⟨⟨_, _, _, rfl, rfl, rfl, WkO.rfl⟩, ?_⟩ | refine HeapOK.acc rfl rfl ?_ | refine HeapOK.es rfl rfl ?_)))))
end Go.Proofs.Ytjlfojgacnphmaa

namespace Go.Proofs.Ytjlfojgacnphmaa
open Go.RowKit Sim Go Sym
set_option maxRecDepth 100000
set_option linter.unusedVariables false
set_option linter.unusedSimpArgs false
variable {base : Nat}
theorem sync_nil : CallS Try.prog base 35 [.c (.p .nilp)] ⟨[], 0⟩ (.tup []) ⟨[], 0⟩ := by
  refine CallS.of noNG lSync.2 rfl (M.start (M.go rfl ?_))
  exact M.done (finQ.normal [] rfl rfl rfl Wk.rfl trivial)
noncomputable def lDRo : {F : LF // lowerF Try.prog 38 = some F} := ⟨_, rfl⟩
theorem room_nil : CallS Try.prog base 38 [.c (.p .nilp), .c (.p (.int .i64 5))] ⟨[], 0⟩ (.tup []) ⟨[], 0⟩ := by
  refine CallS.of noNG lDRo.2 rfl (M.start (M.go rfl ?_))
  exact M.done (finQ.normal [] rfl rfl rfl Wk.rfl trivial)
theorem read_nil : CallS Try.prog base 36 [.c (.p .nilp), .c (.p (.str [97]))] ⟨[], 0⟩ (.tup [.c (.p (.tz true 0 [] none)), .c (.p (.bool false))]) ⟨[], 0⟩ := by
  refine CallS.of noNG lDRd.2 rfl (M.start (M.go rfl ?_))
  exact M.ret (M.go rfl (M.done (finQ.ret [] rfl rfl rfl (Wk.of rfl) (by repeat' (first | exact True.intro | refine ⟨⟨_, _, _, rfl, rfl, rfl, WkO.rfl⟩, ?_⟩ | refine HeapOK.acc rfl rfl ?_ | refine HeapOK.es rfl rfl ?_)))))
theorem append_nil3 : CallS Try.prog base 33 [.c (.p .nilp), .c (.p (.str [97])), .c (.p (.tz true 0 [] none))] ⟨[], 0⟩ (.c (.p (.int .i64 1))) ⟨[], 0⟩ := CallS.reck (m := 200) (h' := noMem) mixed noNG (by kernel_rfl)
theorem cut_nil3 : CallS Try.prog base 39 [.c (.p .nilp), .c (.p (.str [97])), .c (.p (.int .i64 0))] ⟨[], 0⟩ (.c (.p (.int .i64 1))) ⟨[], 0⟩ := CallS.reck (m := 200) (h' := noMem) mixed noNG (by kernel_rfl)
theorem remove_nil3 : CallS Try.prog base 40 [.c (.p .nilp), .c (.p (.str [97]))] ⟨[], 0⟩ (.c (.p (.int .i64 1))) ⟨[], 0⟩ := CallS.reck (m := 200) (h' := noMem) mixed noNG (by kernel_rfl)
theorem move_nil3 : CallS Try.prog base 37 [.c (.p .nilp), .c (.p (.str [97])), .c (.p (.str [98]))] ⟨[], 0⟩ (.c (.p (.int .i64 1))) ⟨[], 0⟩ := CallS.reck (m := 200) (h' := noMem) mixed noNG (by kernel_rfl)
theorem names_nil3 : CallS Try.prog base 34 [.c (.p .nilp)] ⟨[], 0⟩ (.c (.p (.tz true 0 [] none))) ⟨[], 0⟩ := CallS.reck (m := 200) (h' := noMem) mixed noNG (by kernel_rfl)
theorem used_nil3 : CallS Try.prog base 41 [.c (.p .nilp)] ⟨[], 0⟩ (.c (.p (.int .i64 0))) ⟨[], 0⟩ := CallS.reck (m := 200) (h' := noMem) mixed noNG (by kernel_rfl)
theorem waiting_nil3 : CallS Try.prog base 42 [.c (.p .nilp)] ⟨[], 0⟩ (.c (.p (.int .i64 0))) ⟨[], 0⟩ := CallS.reck (m := 200) (h' := noMem) mixed noNG (by kernel_rfl)
theorem crash_nil3 : CallS Try.prog base 23 [.c (.p .nilp), .c (.p (.int .i64 0)), .c (.p (.int .i64 0))] ⟨[], 0⟩ (.c (.p .nilp)) ⟨[], 0⟩ := CallS.reck (m := 200) (h' := noMem) mixed noNG (by kernel_rfl)
noncomputable def lDNo : {F : LF // lowerF Try.prog 12 = some F} := ⟨_, rfl⟩
theorem DiskNone_law : CallS Try.prog base 12 [] ⟨[], 0⟩ (.c (.p (.bool true))) ⟨[], 0⟩ := by
  refine CallS.of noNG lDNo.2 rfl (M.start (M.go rfl ?_))
  refine M.use0 trivial sync_nil rfl rfl rfl ?_
  refine M.go rfl ?_
  refine M.use0 trivial room_nil rfl rfl rfl ?_
  refine M.go rfl ?_
  refine M.use0 trivial read_nil rfl rfl rfl ?_
  refine M.go rfl ?_
  refine M.use0 trivial begun3_spec rfl rfl rfl ?_
  refine M.go rfl ?_
  refine M.use0 (by first | exact True.intro | exact rfl) append_nil3 rfl rfl rfl ?_
  refine M.go rfl ?_
  refine M.dec rfl (fun _ => ?_) (fun hn => absurd (by decide) hn)
  refine M.go rfl ?_
  refine M.use0 (by first | exact True.intro | exact rfl) cut_nil3 rfl rfl rfl ?_
  refine M.go rfl ?_
  refine M.dec rfl (fun _ => ?_) (fun hn => absurd (by decide) hn)
  refine M.go rfl ?_
  refine M.use0 (by first | exact True.intro | exact rfl) remove_nil3 rfl rfl rfl ?_
  refine M.go rfl ?_
  refine M.dec rfl (fun _ => ?_) (fun hn => absurd (by decide) hn)
  refine M.go rfl ?_
  refine M.use0 (by first | exact True.intro | exact rfl) move_nil3 rfl rfl rfl ?_
  refine M.go rfl ?_
  refine M.dec rfl (fun _ => ?_) (fun hn => absurd (by decide) hn)
  refine M.go rfl ?_
  refine M.use0 (by first | exact True.intro | exact rfl) names_nil3 rfl rfl rfl ?_
  refine M.go rfl ?_
  refine M.dec rfl (fun _ => ?_) (fun hn => absurd (by decide) hn)
  refine M.go rfl ?_
  refine M.use0 (by first | exact True.intro | exact rfl) used_nil3 rfl rfl rfl ?_
  refine M.go rfl ?_
  refine M.dec rfl (fun _ => ?_) (fun hn => absurd (by decide) hn)
  refine M.go rfl ?_
  refine M.use0 (by first | exact True.intro | exact rfl) waiting_nil3 rfl rfl rfl ?_
  refine M.go rfl ?_
  refine M.dec rfl (fun _ => ?_) (fun hn => absurd (by decide) hn)
  refine M.go rfl ?_
  refine M.use0 (by first | exact True.intro | exact rfl) crash_nil3 rfl rfl rfl ?_
  refine M.go rfl ?_
  exact M.ret (M.go rfl (M.done (finQ.ret [] rfl rfl rfl (by first | exact Wk.rfl | exact Wk.uncap | exact Wk.nil | exact Wk.b1 rfl | exact Wk.t2 Wk.rfl (Wk.b1 rfl)) (by repeat' (first | exact True.intro | refine ⟨⟨_, _, _, rfl, rfl, rfl, WkO.rfl⟩, ?_⟩ | refine HeapOK.acc rfl rfl ?_ | refine HeapOK.es rfl rfl ?_)))))
theorem diskNone_calls (w : World) : Calls Try.prog 12 #[] w fun e w' => e = .returned (.bool true) ∧ Below w.heap.size w w' := CallS.law DiskNone_law (args' := []) trivial
end Go.Proofs.Ytjlfojgacnphmaa

namespace Go.Proofs.Ytjlfojgacnphmaa
open Go.RowKit Sim Go Sym
set_option maxRecDepth 100000
set_option linter.unusedVariables false
set_option linter.unusedSimpArgs false
variable {base : Nat}
section
variable {P : Program} {n : Nat} {e : Env} {h : HS}
theorem SOp.mkS1 {s bytes k : Nat} {zs : List XC} {z : PC} {x y : LX} {i j : IntKind} (hx : xev e x = some (.c (.p (.int i (k : Int))))) (hy : xev e y = some (.c (.p (.int j (k : Int))))) (hz : zs.map XC.sc = z.flat) (hz2 : z.flat.length = s) (hb : k * bytes ≤ 140737488355328) :
    SOp P n (.mkS s bytes zs x y) e h (.c (.sl h.next 0 k s (some k))) (h.newO (.els s (List.replicate k z))) := ⟨fun o call hw => by
  generalize ho : o.op = op' at hw
  generalize hlk : LK.mkS s bytes zs x y = lk at hw
  cases hw <;> try (cases hlk; done)
  rename_i t l c l' c' e1 i1 z1 g1 g2 g3 g4 g5 g6 g7 g8
  simp only [LK.mkS.injEq] at hlk
  obtain ⟨rfl, rfl, rfl, rfl, rfl⟩ := hlk
  have g9 := zeroX_sc g5
  have hb2 : (k : Int) * (i1.bytes : Int) ≤ 140737488355328 := by rw [← Int.natCast_mul]; omega
  simp only [Sim.step, ho, xev_ev g1 hx, xev_ev g2 hy, XV.sv, XC.sc, PC.sc, sMake, g3, g4, g9, hz]
  rw [if_pos ⟨by omega, by omega, hb2, g6, hz2, g8⟩, Int.toNat_natCast, rep_flat i1.size z hz2]
  rfl⟩
end
def hCr0 (room : Int) (L : FS) (lc : Nat) (F : FS) (c : Nat) : HS := ⟨[(5, some (fM L lc)), (4, some (fM L lc)), (3, some (.row [.p (.int .i64 room), .mp 4, .mp 5, .p (.tz true 5 [] none)] true)), (2, some (fM F c)), (1, some (fM L lc)), (0, some (.row [.p (.int .i64 room), .mp 1, .mp 2, .p (.tz true 5 [] none)] true))], 6⟩
theorem crash0_spec (room : Int) (L : FS) (lc : Nat) (F : FS) (c : Nat) (n torn : Int) :
    CallS Try.prog base 23 [.c (.ptr 0 0), .c (.p (.int .i64 n)), .c (.p (.int .i64 torn))] (hD0 room L lc F c) (.c (.ptr 3 0)) (hCr0 room L lc F c) := by
  refine CallS.of noNG lCr.2 rfl (M.start (M.go rfl ?_))
  refine M.regF (MF.go rfl ?_)
  refine MF.use trivial (mclone_spec L lc) [(0, 1)] rfl rfl rfl (by repeat' (first | exact True.intro | refine ⟨⟨_, _, _, rfl, rfl, rfl, WkO.rfl⟩, ?_⟩ | refine HeapOK.acc rfl rfl ?_ | refine HeapOK.es rfl rfl ?_)) rfl rfl ?_
  refine MF.go rfl ?_
  refine MF.nil mixed (Fnl.nodup rfl) rfl ⟨⟨stepX_ok rfl, trivial⟩, trivial⟩ (M.go rfl ?_)
  refine M.loop (M.round (M.go rfl ?_))
  refine M.cond rfl (fun hn => absurd hn (by simp)) (fun _ => ?_)
  refine M.exit (M.go rfl (M.done (M.q (M.go rfl ?_))))
  refine M.use trivial (mclone_spec L lc) [(0, 3)] rfl rfl rfl (by repeat' (first | exact True.intro | refine ⟨⟨_, _, _, rfl, rfl, rfl, WkO.rfl⟩, ?_⟩ | refine HeapOK.acc rfl rfl ?_ | refine HeapOK.es rfl rfl ?_)) rfl rfl ?_
  refine M.go rfl ?_
  exact M.ret (M.go rfl (M.done (finQ.ret [(0, 0), (1, 1), (2, 2), (3, 4), (4, 3), (5, 5)] rfl rfl rfl (by first | exact Wk.rfl | exact Wk.uncap | exact Wk.nil | exact Wk.b1 rfl | exact Wk.t2 Wk.rfl (Wk.b1 rfl)) ⟨⟨_, _, _, rfl, rfl, rfl, WkO.rfl⟩, ⟨_, _, _, rfl, rfl, rfl, WkO.rfl⟩, ⟨_, _, _, rfl, rfl, rfl, WkO.row ⟨Wk.rfl, Wk.rfl, Wk.rfl, Wk.nil, trivial⟩⟩, ⟨_, _, _, rfl, rfl, rfl, WkO.rfl⟩, ⟨_, _, _, rfl, rfl, rfl, WkO.rfl⟩, ⟨_, _, _, rfl, rfl, rfl, WkO.rfl⟩, trivial⟩)))
def zs (k : Nat) : List Int := List.replicate k 0
theorem zs_len (k : Nat) : (zs k).length = k := by simp [zs]
theorem zs_add (a b : Nat) : zs a ++ zs b = zs (a + b) := by simp [zs]
theorem zs_take (k m : Nat) (h : m ≤ k) : (zs k).take m = zs m := by simp [zs, Nat.min_eq_left h]
theorem zs_P (k : Nat) : u8P (zs k) = List.replicate k (.int .u8 0) := by simp [u8P, zs]
def syn : List Int := [115, 121, 110, 99]
def nmF : List Nat := [102]
def tcg (k : Nat) : Chg := ⟨0, nmF, [], false, zs k, none, 0⟩
def tF (m : Nat) (cp : Option Nat) : FS := f1 nmF (fP false (syn ++ zs m) cp)
def cpN (m k : Nat) (cp : Option Nat) : Option Nat := if k = 0 then some (4 + m) else none
theorem tF_ap (m k : Nat) : apF (false && (u8P (syn ++ zs m)).isEmpty) (syn ++ zs m) (zs k) = fP false (syn ++ zs (m + k)) (cpN m k none) := by
  cases k with
  | zero => rw [apF, if_pos (show zs 0 = [] from rfl), cpN, if_pos rfl]; simp [syn, zs, fP]; omega
  | succ k => rw [apF, if_neg (by simp [zs]), cpN, if_neg (by omega), List.append_assoc, zs_add]
theorem tF_do (m k j : Nat) (cp : Option Nat) (hk : k ≤ j) (hm : m ≤ 10000) (hj : j ≤ 10000) : Do (tcg j) k (tF m cp, 1) (tF (m + k) (cpN m k none), 1) := by
  have := Do.app (x := tcg j) (k := k) (F := tF m cp) (c := 1) (z := false) (old := syn ++ zs m) (oc := cp) rfl (by simp [tcg, zs_len, hk]) (by simp [tcg, zs_len]; omega) rfl (by simp [syn, zs_len]; omega)
  rw [show (tcg j).b.take k = zs k from zs_take j k hk, tF_ap] at this
  exact this
theorem may_f : CallS Try.prog base 70 [.c (.p (.str nmF))] ⟨[], 0⟩ (.c (.p (.bool true))) ⟨[], 0⟩ := CallS.reck (m := 200) (h' := noMem) mixed noNG (by kernel_rfl)
theorem tF_ok (m : Nat) (cp : Option Nat) : FOK (tF m cp) 1 := f1_ok _ _ _ _
theorem tF_used (m : Nat) (cp : Option Nat) : usedN (tF m cp) = 4 + m := by simp [usedN, tF, f1, lenP, fP, syn, zs, u8P]; omega
def mB : Int := roomI 1048576
theorem mB_eq : mB = 1048576 := by decide
def ctr (n torn : Int) (i k : Nat) : Nat := if (i : Int) < n then k else if (i : Int) = n ∧ 0 ≤ torn then min torn.toNat k else 0
def ctrs (n torn : Int) : Nat → List Nat → Nat
  | _, [] => 0
  | i, k :: l => ctr n torn i k + ctrs n torn (i + 1) l
theorem ctr_le (n torn : Int) (i k : Nat) : ctr n torn i k ≤ k := by
  unfold ctr
  split
  · omega
  · split <;> omega
theorem torn_cr (n torn : Int) : ∀ (l : List Nat) (i m : Nat) (cp : Option Nat), (∀ k ∈ l, k ≤ 49) → m + 49 * l.length ≤ 9000 → ∃ cp', CrR n torn (l.map tcg) i (tF m cp, 1) (tF (m + ctrs n torn i l) cp', 1)
  | [], i, m, cp, _, _ => ⟨cp, rfl⟩
  | k :: l, i, m, cp, hk, hm => by
    have h1 := hk k (by simp)
    have h2 := ctr_le n torn i k
    simp only [List.length_cons] at hm
    have step : ∃ cp1, Cr1 n torn (tcg k) i (tF m cp, 1) (tF (m + ctr n torn i k) cp1, 1) := by
      by_cases h3 : (i : Int) < n
      · refine ⟨cpN m k none, ?_⟩
        have := tF_do m k k cp (Nat.le_refl _) (by omega) (by omega)
        rw [Cr1, if_pos h3, ctr, if_pos h3, show (tcg k).b.length = k from zs_len k]
        exact this
      · by_cases h4 : (i : Int) = n ∧ 0 ≤ torn
        · refine ⟨cpN m (min torn.toNat k) none, ?_⟩
          have := tF_do m (min torn.toNat k) k cp (by omega) (by omega) (by omega)
          rw [Cr1, if_neg h3, ctr, if_neg h3, if_pos ⟨h4.1, h4.2, rfl⟩, if_pos h4, show (tcg k).b.length = k from zs_len k]
          exact this
        · refine ⟨cp, ?_⟩
          rw [Cr1, if_neg h3, ctr, if_neg h3, if_neg (fun h => h4 ⟨h.1, h.2.1⟩), if_neg h4]
          rfl
    obtain ⟨cp1, h3⟩ := step
    obtain ⟨cp2, h4⟩ := torn_cr n torn l (i + 1) (m + ctr n torn i k) cp1 (fun k hk' => hk k (by simp [hk'])) (by omega)
    refine ⟨cp2, _, h3, ?_⟩
    rw [Nat.add_assoc] at h4
    exact h4
end Go.Proofs.Ytjlfojgacnphmaa

namespace Go.Proofs.Ytjlfojgacnphmaa
open Go.RowKit Sim Go Sym
set_option maxRecDepth 100000
set_option linter.unusedVariables false
set_option linter.unusedSimpArgs false
variable {base : Nat}
theorem SOp.remK {P : Program} {n : Nat} {e : Env} {h : HS} {nk : NK} {x y : LX} {i : IntKind} {a b : Int} (hx : xev e x = some (.c (.p (.int i a)))) (hy : xev e y = some (.c (.p (.int i b)))) (h0 : b ≠ 0) : SOp P n (.bin nk .rem x y) e h (.c (.p (.int i (a.tmod b)))) h :=
  SOp.bin hx hy (by simp only [binX, if_true, intX]; rw [if_neg h0])
def kz (t : Int) : Nat := (t.tmod 50).natAbs
theorem kz_le (t : Int) : kz t ≤ 49 ∧ -50 < t.tmod 50 ∧ t.tmod 50 < 50 := by
  have h1 : (t.tmod 50).natAbs = t.natAbs % 50 := by simp [Int.natAbs_tmod]
  have h2 : t.natAbs % 50 < 50 := Nat.mod_lt _ (by omega)
  unfold kz
  omega
theorem ctrs_app (n torn : Int) : ∀ (l : List Nat) (i k : Nat), ctrs n torn i (l ++ [k]) = ctrs n torn i l + ctr n torn (i + l.length) k
  | [], i, k => by simp [ctrs]
  | x :: l, i, k => by
    have := ctrs_app n torn l (i + 1) k
    simp only [List.cons_append, ctrs, this, List.length_cons]
    rw [show i + 1 + l.length = i + (l.length + 1) by omega]; omega
theorem ctrs_le (n torn : Int) : ∀ (l : List Nat) (i : Nat), (∀ k ∈ l, k ≤ 49) → ctrs n torn i l ≤ 49 * l.length
  | [], _, _ => Nat.le_refl _
  | k :: l, i, h => by
    have h1 := ctr_le n torn i k
    have h2 := h k (by simp)
    have h3 := ctrs_le n torn l (i + 1) fun k hk => h k (by simp [hk])
    simp only [ctrs, List.length_cons]; omega
theorem tF_hdo (m k : Nat) (cp : Option Nat) (hm : m ≤ 10000) (hk : k ≤ 10000) : CallS Try.prog base 66 [.c (.mp 0), .agg ((chX 0 nmF [] (fP false (zs k) none) 0).map XC.p), .c (.p (.int .i64 (zs k).length))] ⟨[(0, some (fM (tF m cp) 1))], 1⟩ (.tup []) ⟨[(0, some (fM (tF (m + k) (cpN m k none)) 1))], 1⟩ := by
  have := (tF_do m k k cp (Nat.le_refl _) hm hk).spec (base := base)
  rw [zs_len]
  exact this
theorem tap1 (m k : Nat) (cp : Option Nat) (w : PC) (W : List PC) (hm : m ≤ 2000) (hk : k ≤ 49) (hW : W.length ≤ 1000) : CallS Try.prog base 33 [.c (.ptr 0 0), .c (.p (.str nmF)), .c (.p (.tz false 1 (u8P (zs k)) (some k)))] (hD1 3 mB (tF 0 none) 1 (tF m cp) 1 w W) (.c (.p (.int .i64 0))) (hD1 4 mB (tF 0 none) 1 (tF (m + k) (cpN m k none)) 1 w (W ++ [(tcg k).pc])) :=
  append1_spec mB (tF 0 none) 1 (tF m cp) 1 w W (by omega) nmF false (zs k) (some k) may_f (tF_ok _ _) (by rw [mB_eq]; decide) (by rw [tF_used, zs_len, mB_eq]; omega) (.inl rfl) _ _ (tF_hdo m k cp (by omega) (by omega))
theorem tap0 (m k : Nat) (cp : Option Nat) (hm : m ≤ 2000) (hk : k ≤ 49) : CallS Try.prog base 33 [.c (.ptr 0 0), .c (.p (.str nmF)), .c (.p (.tz false 1 (u8P (zs k)) (some k)))] (hD0 mB (tF 0 none) 1 (tF m cp) 1) (.c (.p (.int .i64 0))) (hD1 3 mB (tF 0 none) 1 (tF (m + k) (cpN m k none)) 1 (tcg k).pc []) :=
  append0_spec mB (tF 0 none) 1 (tF m cp) 1 nmF false (zs k) (some k) may_f (tF_ok _ _) (by rw [mB_eq]; decide) (by rw [tF_used, zs_len, mB_eq]; omega) (.inl rfl) _ _ (tF_hdo m k cp (by omega) (by omega))
noncomputable def lTo : {F : LF // lowerF Try.prog 10 = some F} := ⟨_, rfl⟩
def toE (z : Bool) (T : List Int) (ct : Option Nat) (n torn : Int) (S j : Nat) : Env := [(0, .c (.p (.tz z 1 (inP T) ct))), (1, .c (.p (.int .i64 n))), (2, .c (.p (.int .i64 torn))), (8, .c (.ptr 0 0)), (9, .c (.p (.int .i64 ((4 + S : Nat) : Int)))), (10, .c (.p (.int .i64 j)))]
def toX (n torn : Int) (S : Nat) : Env := [(1, .c (.p (.int .i64 n))), (2, .c (.p (.int .i64 torn))), (8, .c (.ptr 0 0)), (9, .c (.p (.int .i64 ((4 + S : Nat) : Int))))]
def pcs (l : List Nat) : List PC := l.map fun k => (tcg k).pc
def ksT (T : List Int) : List Nat := (T.take 20).map kz
theorem ksT_le (T : List Int) : ∀ k ∈ ksT T, k ≤ 49 := fun k hk => by
  simp only [ksT, List.mem_map] at hk
  obtain ⟨t, _, rfl⟩ := hk
  exact (kz_le t).1
theorem ksT_at {T : List Int} {pre rest : List Nat} {k : Nat} (h : ksT T = pre ++ k :: rest) : ∃ t, (inP T)[pre.length]? = some (.int .i64 t) ∧ k = kz t ∧ pre.length < T.length ∧ pre.length < 20 := by
  have h1 : (ksT T)[pre.length]? = some k := by rw [h]; simp
  simp only [ksT, List.getElem?_map, Option.map_eq_some_iff] at h1
  obtain ⟨t, h2, h3⟩ := h1
  rw [List.getElem?_take] at h2
  split at h2
  · rename_i h4
    exact ⟨t, by simp [inP, h2], h3.symm, (List.getElem?_eq_some_iff.1 h2).1, h4⟩
  · cases h2
theorem ksT_len (T : List Int) : (ksT T).length = min 20 T.length := by simp [ksT]
theorem torn_loop (z : Bool) (T : List Int) (ct : Option Nat) (n torn : Int) (Q : QX) (hq : ∀ k0 pr cp, ksT T = k0 :: pr → Q (.exit 0) (toX n torn (ctrs n torn 0 (ksT T))) (hD1 3 mB (tF 0 none) 1 (tF (ksT T).sum cp) 1 (tcg k0).pc (pcs pr))) :
    ∀ (rest : List Nat) (k0 : Nat) (pr : List Nat) (cp : Option Nat), ksT T = (k0 :: pr) ++ rest → XH Try.prog base lTo.1.n 0 (lTo.1.c.lp 0) (toE z T ct n torn (ctrs n torn 0 (k0 :: pr)) (k0 :: pr).length) (hD1 3 mB (tF 0 none) 1 (tF (k0 :: pr).sum cp) 1 (tcg k0).pc (pcs pr)) Q := by
  have hTl : (inP T).length = T.length := by simp [inP]
  have hkl := ksT_len T
  intro rest
  induction rest with
  | nil =>
    intro k0 pr cp hp
    rw [List.append_nil] at hp
    have hq' := hq k0 pr cp hp
    rw [hp] at hq'
    have hpl : (k0 :: pr).length = min 20 T.length := by rw [← hp, hkl]
    refine M.round (M.go rfl ?_)
    refine M.dec rfl (fun h1 => ?_) (fun h1 => ?_)
    · refine M.go rfl ?_
      refine M.cond rfl (fun h2 => absurd h2 (by rw [hTl] at h1; omega)) (fun h2 => ?_)
      refine M.ren [(0, 0), (1, 1), (2, 2), (3, 3)] ?_ trivial rfl (by repeat' (first | exact True.intro | refine ⟨⟨_, _, rfl, rfl, Wk.rfl⟩, ?_⟩ | refine ⟨⟨_, _, accV_ren rfl, rfl, Wk.rfl⟩, ?_⟩ | refine ⟨⟨_, _, accV_ren rfl, rfl, Wk.acc0⟩, ?_⟩ | refine ⟨⟨_, _, rfl, rfl, Wk.uncap⟩, ?_⟩ | refine ⟨⟨_, _, rfl, rfl, Wk.nil⟩, ?_⟩)) (by repeat' (first | exact True.intro | refine ⟨⟨_, _, _, rfl, rfl, rfl, WkO.rfl⟩, ?_⟩ | refine HeapOK.acc rfl rfl ?_ | refine HeapOK.es rfl rfl ?_)) (e' := toX n torn (ctrs n torn 0 (k0 :: pr))) (h' := hD1 3 mB (tF 0 none) 1 (tF (k0 :: pr).sum cp) 1 (tcg k0).pc (pcs pr))
      exact M.exit (M.go rfl (M.done hq'))
    · refine M.go rfl ?_
      refine M.ren [(0, 0), (1, 1), (2, 2), (3, 3)] ?_ trivial rfl (by repeat' (first | exact True.intro | refine ⟨⟨_, _, rfl, rfl, Wk.rfl⟩, ?_⟩ | refine ⟨⟨_, _, accV_ren rfl, rfl, Wk.rfl⟩, ?_⟩ | refine ⟨⟨_, _, accV_ren rfl, rfl, Wk.acc0⟩, ?_⟩ | refine ⟨⟨_, _, rfl, rfl, Wk.uncap⟩, ?_⟩ | refine ⟨⟨_, _, rfl, rfl, Wk.nil⟩, ?_⟩)) (by repeat' (first | exact True.intro | refine ⟨⟨_, _, _, rfl, rfl, rfl, WkO.rfl⟩, ?_⟩ | refine HeapOK.acc rfl rfl ?_ | refine HeapOK.es rfl rfl ?_)) (e' := toX n torn (ctrs n torn 0 (k0 :: pr))) (h' := hD1 3 mB (tF 0 none) 1 (tF (k0 :: pr).sum cp) 1 (tcg k0).pc (pcs pr))
      exact M.exit (M.go rfl (M.done hq'))
  | cons k rest ih =>
    intro k0 pr cp hp
    obtain ⟨t, hu, hk, hlt, h20⟩ := ksT_at hp
    have hk49 := kz_le t
    have hsum : ∀ l : List Nat, (∀ k ∈ l, k ≤ 49) → l.sum ≤ 49 * l.length := fun l hl => by
      induction l with
      | nil => simp
      | cons a l ih => have := hl a (by simp); have := ih fun k hk => hl k (by simp [hk]); simp only [List.sum_cons, List.length_cons]; omega
    have hpre : ∀ k ∈ k0 :: pr, k ≤ 49 := fun k hk => ksT_le T k (by rw [hp]; exact List.mem_append_left _ hk)
    have hs := hsum _ hpre
    have hc := ctrs_le n torn (k0 :: pr) 0 hpre
    have hck := ctr_le n torn (k0 :: pr).length k
    have hca := ctrs_app n torn (k0 :: pr) 0 k
    rw [Nat.zero_add] at hca
    obtain ⟨m, hm⟩ : ∃ m, m = (k0 :: pr).sum := ⟨_, rfl⟩
    obtain ⟨S, hS⟩ : ∃ S, S = ctrs n torn 0 (k0 :: pr) := ⟨_, rfl⟩
    obtain ⟨j, hj⟩ : ∃ j, j = (k0 :: pr).length := ⟨_, rfl⟩
    have ih' := ih k0 (pr ++ [k]) (cpN m k none) (by rw [hp]; simp)
    rw [show k0 :: (pr ++ [k]) = (k0 :: pr) ++ [k] from rfl, hca, List.sum_append, List.length_append, ← hm, ← hS, ← hj, show ([k] : List Nat).sum = k by simp, show ([k] : List Nat).length = 1 from rfl, show pcs (pr ++ [k]) = pcs pr ++ [(tcg k).pc] by simp [pcs]] at ih'
    have h20' : j < 20 := by rw [hj]; exact h20
    have A := tap1 (base := base) m k cp (tcg k0).pc (pcs pr) (by omega) (by omega) (by simp only [pcs, List.length_map]; simp only [List.length_cons] at hj; omega)
    have hw2 : IntKind.i64.wrap ((j : Int) + 1) = ((j + 1 : Nat) : Int) := by rw [wr64 (by omega) (by omega)]; omega
    rw [← hj] at hu hck
    rw [← hm, ← hS, ← hj]
    have hu' : (inP T)[((j : Int)).toNat]? = some (.int .i64 t) := by rw [show ((j : Int)).toNat = j by omega]; exact hu
    refine M.round (M.go rfl ?_)
    refine M.dec rfl (fun h1 => ?_) (fun h1 => absurd (by rw [hTl]; omega) h1)
    refine M.go rfl ?_
    refine M.cond rfl (fun _ => ?_) (fun h2 => absurd (by omega) h2)
    refine M.go rfl ?_
    refine M.op trivial (SOp.ia rfl rfl (by omega) hu') ?_
    refine M.op trivial (SOp.ld1e rfl hu' rfl rfl rfl) ?_
    refine M.go rfl ?_
    refine M.op trivial (SOp.remK rfl rfl (by omega)) ?_
    unfold kz at hk
    obtain ⟨hk1, hk2, hk3⟩ := hk49
    unfold kz at hk1
    generalize t.tmod 50 = r at hk hk1 hk2 hk3
    refine M.go rfl ?_
    refine M.cond rfl (fun h4 => ?_) (fun h4 => ?_)
    · refine M.go rfl ?_
      rw [show IntKind.i64.wrap (0 - r) = (k : Int) by rw [wr64 (by omega) (by omega)]; omega]
      refine M.op trivial (SOp.mkS1 (k := k) (z := .int .u8 0) rfl rfl rfl rfl (by omega)) ?_
      refine M.freezeO (i := 45) rfl rfl (by simp) ?_
      rw [← zs_P]
      refine M.use trivial A [(0, 0), (1, 1), (2, 2), (3, 3)] rfl rfl rfl (by repeat' (first | exact True.intro | refine ⟨⟨_, _, _, rfl, rfl, rfl, WkO.rfl⟩, ?_⟩ | refine HeapOK.acc rfl rfl ?_ | refine HeapOK.es rfl rfl ?_)) rfl rfl ?_
      refine M.go rfl ?_
      refine M.condN rfl (fun hn => absurd rfl hn) (fun _ => ?_)
      refine M.go rfl ?_
      refine M.cond rfl (fun h5 => ?_) (fun h5 => ?_)
      · refine M.go rfl ?_
        rw [wr64 (n := ((4 + S : Nat) : Int) + (k : Int)) (by omega) (by omega), show ((4 + S : Nat) : Int) + (k : Int) = ((4 + (S + k) : Nat) : Int) by omega]
        refine M.dec rfl (fun h6 => absurd h6 (by omega)) (fun h6 => ?_)
        refine M.go rfl ?_
        rw [show ctr n torn j k = k from if_pos h5] at ih'
        rw [hw2]
        exact M.again (XH.ren [(0, 0), (1, 1), (2, 2), (3, 5)] ih' rfl (by repeat' (first | exact True.intro | refine ⟨⟨_, _, rfl, rfl, Wk.rfl⟩, ?_⟩ | refine ⟨⟨_, _, accV_ren rfl, rfl, Wk.rfl⟩, ?_⟩ | refine ⟨⟨_, _, accV_ren rfl, rfl, Wk.acc0⟩, ?_⟩ | refine ⟨⟨_, _, rfl, rfl, Wk.uncap⟩, ?_⟩ | refine ⟨⟨_, _, rfl, rfl, Wk.nil⟩, ?_⟩)) (by repeat' (first | exact True.intro | refine ⟨⟨_, _, _, rfl, rfl, rfl, WkO.rfl⟩, ?_⟩ | refine HeapOK.acc rfl rfl ?_ | refine HeapOK.es rfl rfl ?_)))
      · refine M.go rfl ?_
        refine M.dec rfl (fun h6 => ?_) (fun h6 => ?_)
        · refine M.go rfl ?_
          refine M.dec rfl (fun h7 => ?_) (fun h7 => absurd (by omega) h7)
          refine M.go rfl ?_
          refine M.cond rfl (fun h8 => ?_) (fun h8 => ?_)
          · refine M.go rfl ?_
            have hmn : minI (k : Int) torn = ((min torn.toNat k : Nat) : Int) := by unfold minI; split <;> omega
            rw [hmn, wr64 (n := ((4 + S : Nat) : Int) + ((min torn.toNat k : Nat) : Int)) (by omega) (by omega), show ((4 + S : Nat) : Int) + ((min torn.toNat k : Nat) : Int) = ((4 + (S + min torn.toNat k) : Nat) : Int) by omega]
            rw [show ctr n torn j k = min torn.toNat k by rw [ctr, if_neg h5, if_pos ⟨h6, by omega⟩]] at ih'
            rw [hw2]
            exact M.again (XH.ren [(0, 0), (1, 1), (2, 2), (3, 5)] ih' rfl (by repeat' (first | exact True.intro | refine ⟨⟨_, _, rfl, rfl, Wk.rfl⟩, ?_⟩ | refine ⟨⟨_, _, accV_ren rfl, rfl, Wk.rfl⟩, ?_⟩ | refine ⟨⟨_, _, accV_ren rfl, rfl, Wk.acc0⟩, ?_⟩ | refine ⟨⟨_, _, rfl, rfl, Wk.uncap⟩, ?_⟩ | refine ⟨⟨_, _, rfl, rfl, Wk.nil⟩, ?_⟩)) (by repeat' (first | exact True.intro | refine ⟨⟨_, _, _, rfl, rfl, rfl, WkO.rfl⟩, ?_⟩ | refine HeapOK.acc rfl rfl ?_ | refine HeapOK.es rfl rfl ?_)))
          · refine M.go rfl ?_
            rw [show ctr n torn j k = 0 by rw [ctr, if_neg h5]; split <;> omega, Nat.add_zero] at ih'
            rw [hw2]
            exact M.again (XH.ren [(0, 0), (1, 1), (2, 2), (3, 5)] ih' rfl (by repeat' (first | exact True.intro | refine ⟨⟨_, _, rfl, rfl, Wk.rfl⟩, ?_⟩ | refine ⟨⟨_, _, accV_ren rfl, rfl, Wk.rfl⟩, ?_⟩ | refine ⟨⟨_, _, accV_ren rfl, rfl, Wk.acc0⟩, ?_⟩ | refine ⟨⟨_, _, rfl, rfl, Wk.uncap⟩, ?_⟩ | refine ⟨⟨_, _, rfl, rfl, Wk.nil⟩, ?_⟩)) (by repeat' (first | exact True.intro | refine ⟨⟨_, _, _, rfl, rfl, rfl, WkO.rfl⟩, ?_⟩ | refine HeapOK.acc rfl rfl ?_ | refine HeapOK.es rfl rfl ?_)))
        · refine M.go rfl ?_
          rw [show ctr n torn j k = 0 by rw [ctr, if_neg h5, if_neg (fun h => h6 h.1)], Nat.add_zero] at ih'
          rw [hw2]
          exact M.again (XH.ren [(0, 0), (1, 1), (2, 2), (3, 5)] ih' rfl (by repeat' (first | exact True.intro | refine ⟨⟨_, _, rfl, rfl, Wk.rfl⟩, ?_⟩ | refine ⟨⟨_, _, accV_ren rfl, rfl, Wk.rfl⟩, ?_⟩ | refine ⟨⟨_, _, accV_ren rfl, rfl, Wk.acc0⟩, ?_⟩ | refine ⟨⟨_, _, rfl, rfl, Wk.uncap⟩, ?_⟩ | refine ⟨⟨_, _, rfl, rfl, Wk.nil⟩, ?_⟩)) (by repeat' (first | exact True.intro | refine ⟨⟨_, _, _, rfl, rfl, rfl, WkO.rfl⟩, ?_⟩ | refine HeapOK.acc rfl rfl ?_ | refine HeapOK.es rfl rfl ?_)))
    · obtain rfl : r = (k : Int) := by omega
      refine M.go rfl ?_
      refine M.op trivial (SOp.mkS1 (k := k) (z := .int .u8 0) rfl rfl rfl rfl (by omega)) ?_
      refine M.freezeO (i := 45) rfl rfl (by simp) ?_
      rw [← zs_P]
      refine M.use trivial A [(0, 0), (1, 1), (2, 2), (3, 3)] rfl rfl rfl (by repeat' (first | exact True.intro | refine ⟨⟨_, _, _, rfl, rfl, rfl, WkO.rfl⟩, ?_⟩ | refine HeapOK.acc rfl rfl ?_ | refine HeapOK.es rfl rfl ?_)) rfl rfl ?_
      refine M.go rfl ?_
      refine M.condN rfl (fun hn => absurd rfl hn) (fun _ => ?_)
      refine M.go rfl ?_
      refine M.cond rfl (fun h5 => ?_) (fun h5 => ?_)
      · refine M.go rfl ?_
        rw [wr64 (n := ((4 + S : Nat) : Int) + (k : Int)) (by omega) (by omega), show ((4 + S : Nat) : Int) + (k : Int) = ((4 + (S + k) : Nat) : Int) by omega]
        refine M.dec rfl (fun h6 => absurd h6 (by omega)) (fun h6 => ?_)
        refine M.go rfl ?_
        rw [show ctr n torn j k = k from if_pos h5] at ih'
        rw [hw2]
        exact M.again (XH.ren [(0, 0), (1, 1), (2, 2), (3, 5)] ih' rfl (by repeat' (first | exact True.intro | refine ⟨⟨_, _, rfl, rfl, Wk.rfl⟩, ?_⟩ | refine ⟨⟨_, _, accV_ren rfl, rfl, Wk.rfl⟩, ?_⟩ | refine ⟨⟨_, _, accV_ren rfl, rfl, Wk.acc0⟩, ?_⟩ | refine ⟨⟨_, _, rfl, rfl, Wk.uncap⟩, ?_⟩ | refine ⟨⟨_, _, rfl, rfl, Wk.nil⟩, ?_⟩)) (by repeat' (first | exact True.intro | refine ⟨⟨_, _, _, rfl, rfl, rfl, WkO.rfl⟩, ?_⟩ | refine HeapOK.acc rfl rfl ?_ | refine HeapOK.es rfl rfl ?_)))
      · refine M.go rfl ?_
        refine M.dec rfl (fun h6 => ?_) (fun h6 => ?_)
        · refine M.go rfl ?_
          refine M.dec rfl (fun h7 => ?_) (fun h7 => absurd (by omega) h7)
          refine M.go rfl ?_
          refine M.cond rfl (fun h8 => ?_) (fun h8 => ?_)
          · refine M.go rfl ?_
            have hmn : minI (k : Int) torn = ((min torn.toNat k : Nat) : Int) := by unfold minI; split <;> omega
            rw [hmn, wr64 (n := ((4 + S : Nat) : Int) + ((min torn.toNat k : Nat) : Int)) (by omega) (by omega), show ((4 + S : Nat) : Int) + ((min torn.toNat k : Nat) : Int) = ((4 + (S + min torn.toNat k) : Nat) : Int) by omega]
            rw [show ctr n torn j k = min torn.toNat k by rw [ctr, if_neg h5, if_pos ⟨h6, by omega⟩]] at ih'
            rw [hw2]
            exact M.again (XH.ren [(0, 0), (1, 1), (2, 2), (3, 5)] ih' rfl (by repeat' (first | exact True.intro | refine ⟨⟨_, _, rfl, rfl, Wk.rfl⟩, ?_⟩ | refine ⟨⟨_, _, accV_ren rfl, rfl, Wk.rfl⟩, ?_⟩ | refine ⟨⟨_, _, accV_ren rfl, rfl, Wk.acc0⟩, ?_⟩ | refine ⟨⟨_, _, rfl, rfl, Wk.uncap⟩, ?_⟩ | refine ⟨⟨_, _, rfl, rfl, Wk.nil⟩, ?_⟩)) (by repeat' (first | exact True.intro | refine ⟨⟨_, _, _, rfl, rfl, rfl, WkO.rfl⟩, ?_⟩ | refine HeapOK.acc rfl rfl ?_ | refine HeapOK.es rfl rfl ?_)))
          · refine M.go rfl ?_
            rw [show ctr n torn j k = 0 by rw [ctr, if_neg h5]; split <;> omega, Nat.add_zero] at ih'
            rw [hw2]
            exact M.again (XH.ren [(0, 0), (1, 1), (2, 2), (3, 5)] ih' rfl (by repeat' (first | exact True.intro | refine ⟨⟨_, _, rfl, rfl, Wk.rfl⟩, ?_⟩ | refine ⟨⟨_, _, accV_ren rfl, rfl, Wk.rfl⟩, ?_⟩ | refine ⟨⟨_, _, accV_ren rfl, rfl, Wk.acc0⟩, ?_⟩ | refine ⟨⟨_, _, rfl, rfl, Wk.uncap⟩, ?_⟩ | refine ⟨⟨_, _, rfl, rfl, Wk.nil⟩, ?_⟩)) (by repeat' (first | exact True.intro | refine ⟨⟨_, _, _, rfl, rfl, rfl, WkO.rfl⟩, ?_⟩ | refine HeapOK.acc rfl rfl ?_ | refine HeapOK.es rfl rfl ?_)))
        · refine M.go rfl ?_
          rw [show ctr n torn j k = 0 by rw [ctr, if_neg h5, if_neg (fun h => h6 h.1)], Nat.add_zero] at ih'
          rw [hw2]
          exact M.again (XH.ren [(0, 0), (1, 1), (2, 2), (3, 5)] ih' rfl (by repeat' (first | exact True.intro | refine ⟨⟨_, _, rfl, rfl, Wk.rfl⟩, ?_⟩ | refine ⟨⟨_, _, accV_ren rfl, rfl, Wk.rfl⟩, ?_⟩ | refine ⟨⟨_, _, accV_ren rfl, rfl, Wk.acc0⟩, ?_⟩ | refine ⟨⟨_, _, rfl, rfl, Wk.uncap⟩, ?_⟩ | refine ⟨⟨_, _, rfl, rfl, Wk.nil⟩, ?_⟩)) (by repeat' (first | exact True.intro | refine ⟨⟨_, _, _, rfl, rfl, rfl, WkO.rfl⟩, ?_⟩ | refine HeapOK.acc rfl rfl ?_ | refine HeapOK.es rfl rfl ?_)))
theorem torn_first (z : Bool) (T : List Int) (ct : Option Nat) (n torn : Int) (Q : QX) (hq0 : ksT T = [] → Q (.exit 0) (toX n torn 0) (hD0 mB (tF 0 none) 1 (tF 0 none) 1)) (hq : ∀ k0 pr cp, ksT T = k0 :: pr → Q (.exit 0) (toX n torn (ctrs n torn 0 (ksT T))) (hD1 3 mB (tF 0 none) 1 (tF (ksT T).sum cp) 1 (tcg k0).pc (pcs pr))) :
    XH Try.prog base lTo.1.n 0 (lTo.1.c.lp 0) (toE z T ct n torn 0 0) (hD0 mB (tF 0 none) 1 (tF 0 none) 1) Q := by
  have hTl : (inP T).length = T.length := by simp [inP]
  have hkl := ksT_len T
  rcases hks : ksT T with _ | ⟨k, rest⟩
  · have hq' := hq0 hks
    have hl0 : T.length = 0 := by rw [hks] at hkl; simp at hkl; omega
    refine M.round (M.go rfl ?_)
    refine M.dec rfl (fun h1 => absurd h1 (by rw [hTl]; omega)) (fun h1 => ?_)
    refine M.go rfl ?_
    refine M.ren [(0, 0), (1, 1), (2, 2)] ?_ trivial rfl (by repeat' (first | exact True.intro | refine ⟨⟨_, _, rfl, rfl, Wk.rfl⟩, ?_⟩ | refine ⟨⟨_, _, accV_ren rfl, rfl, Wk.rfl⟩, ?_⟩ | refine ⟨⟨_, _, accV_ren rfl, rfl, Wk.acc0⟩, ?_⟩ | refine ⟨⟨_, _, rfl, rfl, Wk.uncap⟩, ?_⟩ | refine ⟨⟨_, _, rfl, rfl, Wk.nil⟩, ?_⟩)) (by repeat' (first | exact True.intro | refine ⟨⟨_, _, _, rfl, rfl, rfl, WkO.rfl⟩, ?_⟩ | refine HeapOK.acc rfl rfl ?_ | refine HeapOK.es rfl rfl ?_)) (e' := toX n torn 0) (h' := hD0 mB (tF 0 none) 1 (tF 0 none) 1)
    exact M.exit (M.go rfl (M.done hq'))
  · obtain ⟨t, hu, hk, hlt, h20'⟩ := ksT_at (pre := []) hks
    have hk49 := kz_le t
    have ih' := torn_loop (base := base) z T ct n torn Q hq rest k [] (cpN 0 k none) hks
    have hck := ctr_le n torn 0 k
    rw [show ctrs n torn 0 [k] = ctr n torn 0 k from rfl, show ([k] : List Nat).sum = k by simp, show ([k] : List Nat).length = 0 + 1 from rfl] at ih'
    have A := tap0 (base := base) 0 k none (by omega) (by omega)
    rw [Nat.zero_add] at A
    obtain ⟨j, hj⟩ : ∃ j : Nat, j = 0 := ⟨_, rfl⟩
    obtain ⟨S, hS⟩ : ∃ S : Nat, S = 0 := ⟨_, rfl⟩
    rw [show ctr n torn 0 k = S + ctr n torn j k by rw [hS, hj, Nat.zero_add], show 0 + 1 = j + 1 by rw [hj]] at ih'
    rw [show ([] : List Nat).length = j from hj.symm] at hu hlt h20'
    rw [← hj] at hck
    show XH Try.prog base lTo.1.n 0 (lTo.1.c.lp 0) (toE z T ct n torn 0 0) (hD0 mB (tF 0 none) 1 (tF 0 none) 1) Q
    have e1 : toE z T ct n torn 0 0 = toE z T ct n torn S j := by rw [hS, hj]
    rw [e1]
    have hS0 : S ≤ 0 := by omega
    clear hS e1
    have hw2 : IntKind.i64.wrap ((j : Int) + 1) = ((j + 1 : Nat) : Int) := by rw [wr64 (by omega) (by omega)]; omega
    have hu' : (inP T)[((j : Int)).toNat]? = some (.int .i64 t) := by rw [show ((j : Int)).toNat = j by omega]; exact hu
    refine M.round (M.go rfl ?_)
    refine M.dec rfl (fun h1 => ?_) (fun h1 => absurd (by rw [hTl]; omega) h1)
    refine M.go rfl ?_
    refine M.cond rfl (fun _ => ?_) (fun h2 => absurd (by omega) h2)
    refine M.go rfl ?_
    refine M.op trivial (SOp.ia rfl rfl (by omega) hu') ?_
    refine M.op trivial (SOp.ld1e rfl hu' rfl rfl rfl) ?_
    refine M.go rfl ?_
    refine M.op trivial (SOp.remK rfl rfl (by omega)) ?_
    unfold kz at hk
    obtain ⟨hk1, hk2, hk3⟩ := hk49
    unfold kz at hk1
    generalize t.tmod 50 = r at hk hk1 hk2 hk3
    refine M.go rfl ?_
    refine M.cond rfl (fun h4 => ?_) (fun h4 => ?_)
    · refine M.go rfl ?_
      rw [show IntKind.i64.wrap (0 - r) = (k : Int) by rw [wr64 (by omega) (by omega)]; omega]
      refine M.op trivial (SOp.mkS1 (k := k) (z := .int .u8 0) rfl rfl rfl rfl (by omega)) ?_
      refine M.freezeO (i := 45) rfl rfl (by simp) ?_
      rw [← zs_P]
      refine M.use trivial A [(0, 0), (1, 1), (2, 2)] rfl rfl rfl (by repeat' (first | exact True.intro | refine ⟨⟨_, _, _, rfl, rfl, rfl, WkO.rfl⟩, ?_⟩ | refine HeapOK.acc rfl rfl ?_ | refine HeapOK.es rfl rfl ?_)) rfl rfl ?_
      refine M.go rfl ?_
      refine M.condN rfl (fun hn => absurd rfl hn) (fun _ => ?_)
      refine M.go rfl ?_
      refine M.cond rfl (fun h5 => ?_) (fun h5 => ?_)
      · refine M.go rfl ?_
        rw [wr64 (n := ((4 + S : Nat) : Int) + (k : Int)) (by omega) (by omega), show ((4 + S : Nat) : Int) + (k : Int) = ((4 + (S + k) : Nat) : Int) by omega]
        refine M.dec rfl (fun h6 => absurd h6 (by omega)) (fun h6 => ?_)
        refine M.go rfl ?_
        rw [show ctr n torn j k = k from if_pos h5] at ih'
        rw [hw2]
        exact M.again (XH.ren [(0, 0), (1, 1), (2, 2), (3, 4)] ih' rfl (by repeat' (first | exact True.intro | refine ⟨⟨_, _, rfl, rfl, Wk.rfl⟩, ?_⟩ | refine ⟨⟨_, _, accV_ren rfl, rfl, Wk.rfl⟩, ?_⟩ | refine ⟨⟨_, _, accV_ren rfl, rfl, Wk.acc0⟩, ?_⟩ | refine ⟨⟨_, _, rfl, rfl, Wk.uncap⟩, ?_⟩ | refine ⟨⟨_, _, rfl, rfl, Wk.nil⟩, ?_⟩)) (by repeat' (first | exact True.intro | refine ⟨⟨_, _, _, rfl, rfl, rfl, WkO.rfl⟩, ?_⟩ | refine HeapOK.acc rfl rfl ?_ | refine HeapOK.es rfl rfl ?_)))
      · refine M.go rfl ?_
        refine M.dec rfl (fun h6 => ?_) (fun h6 => ?_)
        · refine M.go rfl ?_
          refine M.dec rfl (fun h7 => ?_) (fun h7 => absurd (by omega) h7)
          refine M.go rfl ?_
          refine M.cond rfl (fun h8 => ?_) (fun h8 => ?_)
          · refine M.go rfl ?_
            have hmn : minI (k : Int) torn = ((min torn.toNat k : Nat) : Int) := by unfold minI; split <;> omega
            rw [hmn, wr64 (n := ((4 + S : Nat) : Int) + ((min torn.toNat k : Nat) : Int)) (by omega) (by omega), show ((4 + S : Nat) : Int) + ((min torn.toNat k : Nat) : Int) = ((4 + (S + min torn.toNat k) : Nat) : Int) by omega]
            rw [show ctr n torn j k = min torn.toNat k by rw [ctr, if_neg h5, if_pos ⟨h6, by omega⟩]] at ih'
            rw [hw2]
            exact M.again (XH.ren [(0, 0), (1, 1), (2, 2), (3, 4)] ih' rfl (by repeat' (first | exact True.intro | refine ⟨⟨_, _, rfl, rfl, Wk.rfl⟩, ?_⟩ | refine ⟨⟨_, _, accV_ren rfl, rfl, Wk.rfl⟩, ?_⟩ | refine ⟨⟨_, _, accV_ren rfl, rfl, Wk.acc0⟩, ?_⟩ | refine ⟨⟨_, _, rfl, rfl, Wk.uncap⟩, ?_⟩ | refine ⟨⟨_, _, rfl, rfl, Wk.nil⟩, ?_⟩)) (by repeat' (first | exact True.intro | refine ⟨⟨_, _, _, rfl, rfl, rfl, WkO.rfl⟩, ?_⟩ | refine HeapOK.acc rfl rfl ?_ | refine HeapOK.es rfl rfl ?_)))
          · refine M.go rfl ?_
            rw [show ctr n torn j k = 0 by rw [ctr, if_neg h5]; split <;> omega, Nat.add_zero] at ih'
            rw [hw2]
            exact M.again (XH.ren [(0, 0), (1, 1), (2, 2), (3, 4)] ih' rfl (by repeat' (first | exact True.intro | refine ⟨⟨_, _, rfl, rfl, Wk.rfl⟩, ?_⟩ | refine ⟨⟨_, _, accV_ren rfl, rfl, Wk.rfl⟩, ?_⟩ | refine ⟨⟨_, _, accV_ren rfl, rfl, Wk.acc0⟩, ?_⟩ | refine ⟨⟨_, _, rfl, rfl, Wk.uncap⟩, ?_⟩ | refine ⟨⟨_, _, rfl, rfl, Wk.nil⟩, ?_⟩)) (by repeat' (first | exact True.intro | refine ⟨⟨_, _, _, rfl, rfl, rfl, WkO.rfl⟩, ?_⟩ | refine HeapOK.acc rfl rfl ?_ | refine HeapOK.es rfl rfl ?_)))
        · refine M.go rfl ?_
          rw [show ctr n torn j k = 0 by rw [ctr, if_neg h5, if_neg (fun h => h6 h.1)], Nat.add_zero] at ih'
          rw [hw2]
          exact M.again (XH.ren [(0, 0), (1, 1), (2, 2), (3, 4)] ih' rfl (by repeat' (first | exact True.intro | refine ⟨⟨_, _, rfl, rfl, Wk.rfl⟩, ?_⟩ | refine ⟨⟨_, _, accV_ren rfl, rfl, Wk.rfl⟩, ?_⟩ | refine ⟨⟨_, _, accV_ren rfl, rfl, Wk.acc0⟩, ?_⟩ | refine ⟨⟨_, _, rfl, rfl, Wk.uncap⟩, ?_⟩ | refine ⟨⟨_, _, rfl, rfl, Wk.nil⟩, ?_⟩)) (by repeat' (first | exact True.intro | refine ⟨⟨_, _, _, rfl, rfl, rfl, WkO.rfl⟩, ?_⟩ | refine HeapOK.acc rfl rfl ?_ | refine HeapOK.es rfl rfl ?_)))
    · obtain rfl : r = (k : Int) := by omega
      refine M.go rfl ?_
      refine M.op trivial (SOp.mkS1 (k := k) (z := .int .u8 0) rfl rfl rfl rfl (by omega)) ?_
      refine M.freezeO (i := 45) rfl rfl (by simp) ?_
      rw [← zs_P]
      refine M.use trivial A [(0, 0), (1, 1), (2, 2)] rfl rfl rfl (by repeat' (first | exact True.intro | refine ⟨⟨_, _, _, rfl, rfl, rfl, WkO.rfl⟩, ?_⟩ | refine HeapOK.acc rfl rfl ?_ | refine HeapOK.es rfl rfl ?_)) rfl rfl ?_
      refine M.go rfl ?_
      refine M.condN rfl (fun hn => absurd rfl hn) (fun _ => ?_)
      refine M.go rfl ?_
      refine M.cond rfl (fun h5 => ?_) (fun h5 => ?_)
      · refine M.go rfl ?_
        rw [wr64 (n := ((4 + S : Nat) : Int) + (k : Int)) (by omega) (by omega), show ((4 + S : Nat) : Int) + (k : Int) = ((4 + (S + k) : Nat) : Int) by omega]
        refine M.dec rfl (fun h6 => absurd h6 (by omega)) (fun h6 => ?_)
        refine M.go rfl ?_
        rw [show ctr n torn j k = k from if_pos h5] at ih'
        rw [hw2]
        exact M.again (XH.ren [(0, 0), (1, 1), (2, 2), (3, 4)] ih' rfl (by repeat' (first | exact True.intro | refine ⟨⟨_, _, rfl, rfl, Wk.rfl⟩, ?_⟩ | refine ⟨⟨_, _, accV_ren rfl, rfl, Wk.rfl⟩, ?_⟩ | refine ⟨⟨_, _, accV_ren rfl, rfl, Wk.acc0⟩, ?_⟩ | refine ⟨⟨_, _, rfl, rfl, Wk.uncap⟩, ?_⟩ | refine ⟨⟨_, _, rfl, rfl, Wk.nil⟩, ?_⟩)) (by repeat' (first | exact True.intro | refine ⟨⟨_, _, _, rfl, rfl, rfl, WkO.rfl⟩, ?_⟩ | refine HeapOK.acc rfl rfl ?_ | refine HeapOK.es rfl rfl ?_)))
      · refine M.go rfl ?_
        refine M.dec rfl (fun h6 => ?_) (fun h6 => ?_)
        · refine M.go rfl ?_
          refine M.dec rfl (fun h7 => ?_) (fun h7 => absurd (by omega) h7)
          refine M.go rfl ?_
          refine M.cond rfl (fun h8 => ?_) (fun h8 => ?_)
          · refine M.go rfl ?_
            have hmn : minI (k : Int) torn = ((min torn.toNat k : Nat) : Int) := by unfold minI; split <;> omega
            rw [hmn, wr64 (n := ((4 + S : Nat) : Int) + ((min torn.toNat k : Nat) : Int)) (by omega) (by omega), show ((4 + S : Nat) : Int) + ((min torn.toNat k : Nat) : Int) = ((4 + (S + min torn.toNat k) : Nat) : Int) by omega]
            rw [show ctr n torn j k = min torn.toNat k by rw [ctr, if_neg h5, if_pos ⟨h6, by omega⟩]] at ih'
            rw [hw2]
            exact M.again (XH.ren [(0, 0), (1, 1), (2, 2), (3, 4)] ih' rfl (by repeat' (first | exact True.intro | refine ⟨⟨_, _, rfl, rfl, Wk.rfl⟩, ?_⟩ | refine ⟨⟨_, _, accV_ren rfl, rfl, Wk.rfl⟩, ?_⟩ | refine ⟨⟨_, _, accV_ren rfl, rfl, Wk.acc0⟩, ?_⟩ | refine ⟨⟨_, _, rfl, rfl, Wk.uncap⟩, ?_⟩ | refine ⟨⟨_, _, rfl, rfl, Wk.nil⟩, ?_⟩)) (by repeat' (first | exact True.intro | refine ⟨⟨_, _, _, rfl, rfl, rfl, WkO.rfl⟩, ?_⟩ | refine HeapOK.acc rfl rfl ?_ | refine HeapOK.es rfl rfl ?_)))
          · refine M.go rfl ?_
            rw [show ctr n torn j k = 0 by rw [ctr, if_neg h5]; split <;> omega, Nat.add_zero] at ih'
            rw [hw2]
            exact M.again (XH.ren [(0, 0), (1, 1), (2, 2), (3, 4)] ih' rfl (by repeat' (first | exact True.intro | refine ⟨⟨_, _, rfl, rfl, Wk.rfl⟩, ?_⟩ | refine ⟨⟨_, _, accV_ren rfl, rfl, Wk.rfl⟩, ?_⟩ | refine ⟨⟨_, _, accV_ren rfl, rfl, Wk.acc0⟩, ?_⟩ | refine ⟨⟨_, _, rfl, rfl, Wk.uncap⟩, ?_⟩ | refine ⟨⟨_, _, rfl, rfl, Wk.nil⟩, ?_⟩)) (by repeat' (first | exact True.intro | refine ⟨⟨_, _, _, rfl, rfl, rfl, WkO.rfl⟩, ?_⟩ | refine HeapOK.acc rfl rfl ?_ | refine HeapOK.es rfl rfl ?_)))
        · refine M.go rfl ?_
          rw [show ctr n torn j k = 0 by rw [ctr, if_neg h5, if_neg (fun h => h6 h.1)], Nat.add_zero] at ih'
          rw [hw2]
          exact M.again (XH.ren [(0, 0), (1, 1), (2, 2), (3, 4)] ih' rfl (by repeat' (first | exact True.intro | refine ⟨⟨_, _, rfl, rfl, Wk.rfl⟩, ?_⟩ | refine ⟨⟨_, _, accV_ren rfl, rfl, Wk.rfl⟩, ?_⟩ | refine ⟨⟨_, _, accV_ren rfl, rfl, Wk.acc0⟩, ?_⟩ | refine ⟨⟨_, _, rfl, rfl, Wk.uncap⟩, ?_⟩ | refine ⟨⟨_, _, rfl, rfl, Wk.nil⟩, ?_⟩)) (by repeat' (first | exact True.intro | refine ⟨⟨_, _, _, rfl, rfl, rfl, WkO.rfl⟩, ?_⟩ | refine HeapOK.acc rfl rfl ?_ | refine HeapOK.es rfl rfl ?_)))
theorem sub_f (m : Nat) (cp : Option Nat) : findP nmF (tF m cp) = some (fP false (syn ++ zs m) cp) := rfl
theorem DiskTorn_spec (z : Bool) (T : List Int) (ct : Option Nat) (n torn : Int) : CallS Try.prog base 10 [.c (.p (.tz z 1 (inP T) ct)), .c (.p (.int .i64 n)), .c (.p (.int .i64 torn))] ⟨[], 0⟩ (.c (.p (.bool true))) ⟨[], 0⟩ := by
  refine CallS.of noNG lTo.2 rfl (M.start (M.go rfl ?_))
  refine M.use0 trivial begun3_spec rfl rfl rfl ?_
  refine M.go rfl ?_
  refine M.use trivial (dnew_spec 1048576) [] rfl rfl rfl trivial rfl rfl ?_
  refine M.go rfl ?_
  refine M.op trivial (SOp.cvO rfl rfl (by decide)) ?_
  refine M.freezeO (i := 20) rfl rfl rfl ?_
  refine M.use trivial (append0_spec mB [] 0 [] 0 nmF false syn (some 4) may_f (f0_ok 0) (by decide) (by decide) (.inr (by decide)) _ _ (do_first nmF [] 0 false syn none (by decide) (by decide))) [(0, 0), (1, 1), (2, 2)] rfl rfl rfl (by repeat' (first | exact True.intro | refine ⟨⟨_, _, _, rfl, rfl, rfl, WkO.rfl⟩, ?_⟩ | refine HeapOK.acc rfl rfl ?_ | refine HeapOK.es rfl rfl ?_)) rfl rfl ?_
  refine M.go rfl ?_
  refine M.use trivial (sync1_spec mB [] 0 (f1 nmF (fP false syn none)) 1 _ _) [(0, 0), (1, 1), (2, 2), (3, 4)] rfl rfl rfl (by repeat' (first | exact True.intro | refine ⟨⟨_, _, _, rfl, rfl, rfl, WkO.rfl⟩, ?_⟩ | refine HeapOK.acc rfl rfl ?_ | refine HeapOK.es rfl rfl ?_)) rfl rfl ?_
  refine M.go rfl ?_
  refine M.loop (XH.ren [(0, 0), (1, 5), (2, 2)] (torn_first z T ct n torn _ (fun hk => ?_) (fun k0 pr cp hk => ?_)) rfl (by repeat' (first | exact True.intro | refine ⟨⟨_, _, rfl, rfl, Wk.rfl⟩, ?_⟩ | refine ⟨⟨_, _, accV_ren rfl, rfl, Wk.rfl⟩, ?_⟩ | refine ⟨⟨_, _, accV_ren rfl, rfl, Wk.acc0⟩, ?_⟩ | refine ⟨⟨_, _, rfl, rfl, Wk.uncap⟩, ?_⟩ | refine ⟨⟨_, _, rfl, rfl, Wk.nil⟩, ?_⟩)) (by repeat' (first | exact True.intro | refine ⟨⟨_, _, _, rfl, rfl, rfl, WkO.rfl⟩, ?_⟩ | refine HeapOK.acc rfl rfl ?_ | refine HeapOK.es rfl rfl ?_)))
  · refine M.q (M.go rfl ?_)
    refine M.use trivial (crash0_spec mB (tF 0 none) 1 (tF 0 none) 1 n torn) [(0, 0), (1, 1), (2, 2)] rfl rfl rfl (by repeat' (first | exact True.intro | refine ⟨⟨_, _, _, rfl, rfl, rfl, WkO.rfl⟩, ?_⟩ | refine HeapOK.acc rfl rfl ?_ | refine HeapOK.es rfl rfl ?_)) rfl rfl ?_
    refine M.go rfl ?_
    refine M.use trivial (read0_spec mB (tF 0 none) 1 (tF 0 none) 1 nmF false (syn ++ zs 0) none rfl (by decide)) [(0, 3), (1, 4), (2, 5)] rfl rfl rfl (by repeat' (first | exact True.intro | refine ⟨⟨_, _, _, rfl, rfl, rfl, WkO.rfl⟩, ?_⟩ | refine HeapOK.acc rfl rfl ?_ | refine HeapOK.es rfl rfl ?_)) rfl rfl ?_
    refine M.go rfl ?_
    refine M.dec rfl (fun _ => ?_) (fun hn => absurd (by decide) hn)
    refine M.go rfl ?_
    refine M.op (by first | exact True.intro | exact rfl) (SOp.sl (l := 0) (r := 4) rfl rfl ⟨_, _, rfl, by decide, rfl⟩ (by decide) (by rw [u8P_len]; simp [syn])) ?_
    rw [List.drop_zero, Nat.sub_zero, u8P_take, show (syn ++ zs 0).take 4 = syn by simp [syn]]
    refine M.go rfl ?_
    refine M.op (by first | exact True.intro | exact rfl) (SOp.cvBS (l := [115, 121, 110, 99]) rfl rfl) ?_
    refine M.go rfl ?_
    refine M.decC (s := 6) rfl (fun _ => ?_) (fun hn => by cases hn)
    exact M.ret (M.go rfl (M.done (finQ.ret [] rfl rfl rfl (by first | exact Wk.rfl | exact Wk.uncap | exact Wk.nil | exact Wk.b1 rfl | exact Wk.t2 Wk.rfl (Wk.b1 rfl)) (by repeat' (first | exact True.intro | refine ⟨⟨_, _, _, rfl, rfl, rfl, WkO.rfl⟩, ?_⟩ | refine HeapOK.acc rfl rfl ?_ | refine HeapOK.es rfl rfl ?_)))))
  · have hle := ksT_le T
    have hl := ksT_len T
    obtain ⟨cp', hc⟩ := torn_cr n torn (ksT T) 0 0 none hle (by omega)
    rw [Nat.zero_add] at hc
    have hcl := ctrs_le n torn (ksT T) 0 hle
    obtain ⟨S, hS⟩ : ∃ S, S = ctrs n torn 0 (ksT T) := ⟨_, rfl⟩
    rw [← hS] at hc hcl ⊢
    refine M.q (M.go rfl ?_)
    refine M.use trivial (crash1_spec mB (tF 0 none) 1 (tF (ksT T).sum cp) 1 (tcg k0).pc (pcs pr) ((ksT T).map tcg) (by rw [hk]; simp [pcs]) (by rw [List.length_map]; omega) n torn _ hc) [(0, 0), (1, 1), (2, 2), (3, 3)] rfl rfl rfl (by repeat' (first | exact True.intro | refine ⟨⟨_, _, _, rfl, rfl, rfl, WkO.rfl⟩, ?_⟩ | refine HeapOK.acc rfl rfl ?_ | refine HeapOK.es rfl rfl ?_)) rfl rfl ?_
    refine M.go rfl ?_
    refine M.use trivial (read0_spec mB (tF S cp') 1 (tF S cp') 1 nmF false (syn ++ zs S) cp' rfl (by simp [syn, zs]; omega)) [(0, 4), (1, 5), (2, 6)] rfl rfl rfl (by repeat' (first | exact True.intro | refine ⟨⟨_, _, _, rfl, rfl, rfl, WkO.rfl⟩, ?_⟩ | refine HeapOK.acc rfl rfl ?_ | refine HeapOK.es rfl rfl ?_)) rfl rfl ?_
    refine M.go rfl ?_
    refine M.dec rfl (fun _ => ?_) (fun hn => absurd (by rw [u8P_len, List.length_append, zs_len]; rfl) hn)
    refine M.go rfl ?_
    refine M.op (by first | exact True.intro | exact rfl) (SOp.sl (l := 0) (r := 4) rfl rfl ⟨_, _, rfl, by decide, rfl⟩ (by decide) (by rw [u8P_len]; simp [syn])) ?_
    rw [List.drop_zero, Nat.sub_zero, u8P_take, show (syn ++ zs S).take 4 = syn by simp [syn]]
    refine M.go rfl ?_
    refine M.op (by first | exact True.intro | exact rfl) (SOp.cvBS (l := [115, 121, 110, 99]) rfl rfl) ?_
    refine M.go rfl ?_
    refine M.decC (s := 6) rfl (fun _ => ?_) (fun hn => by cases hn)
    exact M.ret (M.go rfl (M.done (finQ.ret [] rfl rfl rfl (by first | exact Wk.rfl | exact Wk.uncap | exact Wk.nil | exact Wk.b1 rfl | exact Wk.t2 Wk.rfl (Wk.b1 rfl)) (by repeat' (first | exact True.intro | refine ⟨⟨_, _, _, rfl, rfl, rfl, WkO.rfl⟩, ?_⟩ | refine HeapOK.acc rfl rfl ?_ | refine HeapOK.es rfl rfl ?_)))))
theorem DiskTorn_law {p0 p1 p2 : PC} (h0 : Is (.sl 1 8 (.int .i64)) p0) (h1 : Is (.int .i64) p1) (h2 : Is (.int .i64) p2) : CallS Try.prog base 10 [xvP p0, xvP p1, xvP p2] ⟨[], 0⟩ (.c (.p (.bool true))) ⟨[], 0⟩ := by
  obtain ⟨z, T, rfl, hT, -⟩ := h0.ints
  obtain ⟨n, rfl, -⟩ := h1.i64
  obtain ⟨torn, rfl, -⟩ := h2.i64
  exact DiskTorn_spec z T none n torn
end Go.Proofs.Ytjlfojgacnphmaa

namespace Go.Proofs.Ytjlfojgacnphmaa
open Go.RowKit Sim Go Sym
set_option maxRecDepth 100000
set_option linter.unusedVariables false
set_option linter.unusedSimpArgs false
variable {base : Nat}
def nm (i : Nat) : List Nat := [102, 97 + i / 26, 97 + i % 26]
theorem nm_inj {i j : Nat} (h : nm i = nm j) : i = j := by
  simp only [nm, List.cons.injEq] at h
  omega
theorem may_all : (List.range 80).all (fun i => isTrue (callF Try.prog 300 70 [SV.c (.str (nm i))] noMem)) = true := by kernel_rfl
theorem may_nm {i : Nat} (hi : i < 80) : CallS Try.prog base 70 [.c (.p (.str (nm i)))] ⟨[], 0⟩ (.c (.p (.bool true))) ⟨[], 0⟩ := by
  have h := List.all_eq_true.1 may_all i (List.mem_range.2 hi)
  cases hq : callF Try.prog 300 70 [SV.c (.str (nm i))] noMem with
  | none => rw [hq] at h; cases h
  | some r =>
    rw [hq] at h
    obtain ⟨v, h'⟩ := r
    unfold Sim.isTrue at h
    split at h
    · rename_i h1
      simp only [Option.some.injEq, Prod.mk.injEq] at h1
      obtain ⟨rfl, rfl⟩ := h1
      exact CallS.reck (r := .bool true) mixed noNG hq
    · cases h
end Go.Proofs.Ytjlfojgacnphmaa

namespace Go.Proofs.Ytjlfojgacnphmaa
open Go.RowKit Sim Go Sym
set_option maxRecDepth 100000
set_option linter.unusedVariables false
set_option linter.unusedSimpArgs false
variable {base : Nat}
def oneF : PC := fP false [1] none
def Fm (k : Nat) : FS := (List.range k).map fun j => (j, nm j, oneF)
def ch (j : Nat) : PC := .agg (chX 0 (nm j) [] oneF 0)
def Wm (k : Nat) : List PC := (List.range k).map fun j => ch (j + 1)
theorem Fm_len (k : Nat) : (Fm k).length = k := by simp [Fm]
theorem Fm_succ (k : Nat) : Fm (k + 1) = Fm k ++ [(k, nm k, oneF)] := by simp [Fm, List.range_succ]
theorem Wm_succ (k : Nat) : Wm (k + 1) = Wm k ++ [ch (k + 1)] := by simp [Wm, List.range_succ]
theorem Wm_len (k : Nat) : (Wm k).length = k := by simp [Wm]
theorem findP_none {a : List Nat} : ∀ {F : FS}, (∀ e ∈ F, a ≠ e.2.1) → findP a F = none
  | [], _ => rfl
  | e :: F, h => by rw [findP, if_neg (h e (by simp)), findP_none fun x hx => h x (by simp [hx])]
theorem setP_none {a : List Nat} {v : PC} : ∀ {F : FS}, (∀ e ∈ F, a ≠ e.2.1) → setP a v F = none
  | [], _ => rfl
  | e :: F, h => by rw [setP, if_neg (h e (by simp)), setP_none fun x hx => h x (by simp [hx])]
theorem Fm_new {i k : Nat} (h : k ≤ i) : ∀ e ∈ Fm k, nm i ≠ e.2.1 := fun e he hc => by
  simp only [Fm, List.mem_map, List.mem_range] at he
  obtain ⟨j, hj, rfl⟩ := he
  have := nm_inj hc
  omega
theorem Fm_ok (k : Nat) : FOK (Fm k) k := by
  refine ⟨fun e he => ?_, ?_, fun e he => ?_⟩
  · simp only [Fm, List.mem_map, List.mem_range] at he
    obtain ⟨j, hj, rfl⟩ := he
    exact hj
  · have : (Fm k).map (·.1) = List.range k := by simp only [Fm, List.map_map]; exact List.map_id _
    rw [this]; exact List.nodup_range
  · simp only [Fm, List.mem_map, List.mem_range] at he
    obtain ⟨j, hj, rfl⟩ := he
    exact ⟨false, [1], none, rfl⟩
theorem Fm_nok (k : Nat) (h : k ≤ 1000) : NOK (Fm k) := by
  refine ⟨?_, fun e he => ?_, by rw [Fm_len]; omega⟩
  · have : (Fm k).map (fun e => e.2.1) = (List.range k).map nm := by simp [Fm, List.map_map, Function.comp]
    rw [this]
    exact List.pairwise_map.2 (List.nodup_range.imp fun hne e => hne (nm_inj e))
  · simp only [Fm, List.mem_map, List.mem_range] at he
    obtain ⟨j, hj, rfl⟩ := he
    simp [nm]
theorem Fm_used (k : Nat) : usedN (Fm k) = k := by
  induction k with
  | zero => rfl
  | succ k ih =>
    rw [Fm_succ]
    simp only [usedN, List.map_append, List.sum_append] at ih ⊢
    rw [ih]
    simp [oneF, lenP, fP, u8P]
theorem Fm_do (k : Nat) : CallS Try.prog base 66 [.c (.mp 0), .agg ((chX 0 (nm k) [] (fP false [1] none) 0).map XC.p), .c (.p (.int .i64 ([1] : List Int).length))] ⟨[(0, some (fM (Fm k) k))], 1⟩ (.tup []) ⟨[(0, some (fM (Fm (k + 1)) (k + 1)))], 1⟩ := by
  have hn := Fm_new (Nat.le_refl k)
  have := do_app0 (base := base) (Fm k) k (nm k) [] 0 (findP_none hn) false [1] none 1 (by decide) (by decide)
  rw [show ([1] : List Int).take 1 = [1] from rfl, apF_ne (by decide), updP, updPC, setP_none hn] at this
  simp only [] at this
  rw [Fm_succ]
  exact this
def kB : Int := roomI 1000
theorem kB_eq : kB = 1000 := by decide
theorem map0 (k : Nat) (hk : k = 0) (cb : Option Nat) : CallS Try.prog base 33 [.c (.ptr 0 0), .c (.p (.str (nm 0))), .c (.p (.tz false 1 (u8P [1]) cb))] (hD0 kB [] 0 [] 0) (.c (.p (.int .i64 0))) (hD1 3 kB [] 0 (Fm 1) 1 (ch 0) []) :=
  append0_spec kB [] 0 [] 0 (nm 0) false [1] cb (may_nm (by decide)) (f0_ok 0) (by rw [kB_eq]; decide) (by rw [kB_eq]; decide) (.inr (by decide)) _ _ (Fm_do 0)
theorem map1 (k : Nat) (hk : k + 1 < 64) (cb : Option Nat) : CallS Try.prog base 33 [.c (.ptr 0 0), .c (.p (.str (nm (k + 1)))), .c (.p (.tz false 1 (u8P [1]) cb))] (hD1 3 kB [] 0 (Fm (k + 1)) (k + 1) (ch 0) (Wm k)) (.c (.p (.int .i64 0))) (hD1 4 kB [] 0 (Fm (k + 1 + 1)) (k + 1 + 1) (ch 0) (Wm (k + 1))) := by
  rw [Wm_succ]
  exact append1_spec kB [] 0 (Fm (k + 1)) (k + 1) (ch 0) (Wm k) (by rw [Wm_len]; omega) (nm (k + 1)) false [1] cb (may_nm (by omega)) (Fm_ok _) (by rw [kB_eq]; decide) (by rw [kB_eq, Fm_used]; show ((k + 1 + 1 : Nat) : Int) ≤ _; omega) (.inr (by rw [Fm_len]; omega)) _ _ (Fm_do (k + 1))
theorem mapF (i : Nat) (h : 64 ≤ i) (h8 : i < 80) (cb : Option Nat) : CallS Try.prog base 33 [.c (.ptr 0 0), .c (.p (.str (nm i))), .c (.p (.tz false 1 (u8P [1]) cb))] (hD1 3 kB [] 0 (Fm 64) 64 (ch 0) (Wm 63)) (.c (.p (.int .i64 2))) (hD1 3 kB [] 0 (Fm 64) 64 (ch 0) (Wm 63)) :=
  append1_full kB [] 0 (Fm 64) 64 (ch 0) (Wm 63) (by rw [Wm_len]; omega) (nm i) false [1] cb (may_nm h8) (Fm_ok _) (by rw [kB_eq]; decide) (by rw [kB_eq, Fm_used]; decide) (findP_none (Fm_new h)) (by rw [Fm_len]; omega)
theorem SOp.quoK {P : Program} {n : Nat} {e : Env} {h : HS} {nk : NK} {x y : LX} {i : IntKind} {a b : Int} (hx : xev e x = some (.c (.p (.int i a)))) (hy : xev e y = some (.c (.p (.int i b)))) (h0 : b ≠ 0) : SOp P n (.bin nk .quo x y) e h (.c (.p (.int i (i.wrap (a.tdiv b))))) h :=
  SOp.bin hx hy (by simp only [binX, if_true, intX]; rw [if_neg h0])
def hMs (i : Nat) : HS := hD1 3 kB [] 0 (Fm (min i 64)) (min i 64) (ch 0) (Wm (min i 64 - 1))
noncomputable def lMa : {F : LF // lowerF Try.prog 9 = some F} := ⟨_, rfl⟩
theorem w8 {n : Nat} (h : n < 256) : IntKind.u8.wrap ((n : Nat) : Int) = n := wr_u8 (by omega) (by omega)
theorem many3_loop (N : Nat) (h80 : N ≤ 80) (Q : QX) (hq : 1 ≤ N → Q (.exit 0) [(0, .c (.p (.int .i64 N))), (4, .c (.ptr 0 0))] (hMs N)) :
    ∀ (rem i : Nat), i + 1 + rem = N → XH Try.prog base lMa.1.n 0 (lMa.1.c.lp 0) [(0, .c (.p (.int .i64 N))), (4, .c (.ptr 0 0)), (5, .c (.p (.int .i64 (i + 1 : Nat))))] (hMs (i + 1)) Q := by
  intro rem
  induction rem with
  | zero =>
    intro i hi
    obtain rfl : N = i + 1 := by omega
    have hq' := hq (by omega)
    refine M.round (M.go rfl ?_)
    refine M.cond rfl (fun hc => absurd hc (by omega)) (fun _ => ?_)
    refine M.ren [(0, 0), (1, 1), (2, 2), (3, 3)] ?_ trivial rfl (by repeat' (first | exact True.intro | refine ⟨⟨_, _, rfl, rfl, Wk.rfl⟩, ?_⟩ | refine ⟨⟨_, _, accV_ren rfl, rfl, Wk.rfl⟩, ?_⟩ | refine ⟨⟨_, _, accV_ren rfl, rfl, Wk.acc0⟩, ?_⟩ | refine ⟨⟨_, _, rfl, rfl, Wk.uncap⟩, ?_⟩ | refine ⟨⟨_, _, rfl, rfl, Wk.nil⟩, ?_⟩)) (by repeat' (first | exact True.intro | refine ⟨⟨_, _, _, rfl, rfl, rfl, WkO.rfl⟩, ?_⟩ | refine HeapOK.acc rfl rfl ?_ | refine HeapOK.es rfl rfl ?_)) (e' := [(0, .c (.p (.int .i64 (i + 1 : Nat)))), (4, .c (.ptr 0 0))]) (h' := hMs (i + 1))
    exact M.exit (M.go rfl (M.done hq'))
  | succ rem ih =>
    intro i hi
    have ih' := ih (i + 1) (by omega)
    obtain ⟨j, hj⟩ : ∃ j, j = i + 1 := ⟨_, rfl⟩
    rw [← hj] at ih' ⊢
    unfold hMs
    have hA : (j < 64 ∧ Fm (min j 64) = Fm j ∧ min j 64 = j ∧ Wm (min j 64 - 1) = Wm i) ∨ (64 ≤ j ∧ Fm (min j 64) = Fm 64 ∧ min j 64 = 64 ∧ Wm (min j 64 - 1) = Wm 63) := by
      by_cases h : j < 64
      · have e : min j 64 = j := by omega
        exact .inl ⟨h, by rw [e], e, by rw [e, hj]; rfl⟩
      · have e : min j 64 = 64 := by omega
        exact .inr ⟨by omega, by rw [e], e, by rw [e]⟩
    generalize Fm (min j 64) = F at hA
    generalize Wm (min j 64 - 1) = W at hA
    generalize min j 64 = c at hA
    have hj8 : j < 80 := by omega
    have hw : IntKind.i64.wrap ((j : Int) + 1) = ((j + 1 : Nat) : Int) := by rw [wr64 (by omega) (by omega)]; omega
    have q1 : IntKind.i64.wrap ((j : Int).tdiv 26) = ((j / 26 : Nat) : Int) := by rw [Int.tdiv_eq_ediv_of_nonneg (by omega), wr64 (by omega) (by omega)]; omega
    have q2 : (j : Int).tmod 26 = ((j % 26 : Nat) : Int) := by rw [Int.tmod_eq_emod_of_nonneg (by omega)]; omega
    have q3 : IntKind.i64.wrap (97 + ((j / 26 : Nat) : Int)) = ((97 + j / 26 : Nat) : Int) := by rw [wr64 (by omega) (by omega)]; omega
    have q4 : IntKind.i64.wrap (97 + ((j % 26 : Nat) : Int)) = ((97 + j % 26 : Nat) : Int) := by rw [wr64 (by omega) (by omega)]; omega
    refine M.round (M.go rfl ?_)
    refine M.cond rfl (fun _ => ?_) (fun hc => absurd (by omega) hc)
    refine M.go rfl ?_
    refine M.op trivial (SOp.quoK rfl rfl (by decide)) ?_
    rw [q1]
    refine M.go rfl ?_
    rw [q3, w8 (n := 97 + j / 26) (by omega)]
    refine M.op trivial (SOp.remK rfl rfl (by decide)) ?_
    rw [q2]
    refine M.go rfl ?_
    rw [q4, w8 (n := 97 + j % 26) (by omega)]
    refine M.freezeO (i := 31) rfl rfl rfl ?_
    refine M.op trivial (SOp.cvBS (l := [97 + j / 26, 97 + j % 26]) rfl (bytesX_map (l := [97 + j / 26, 97 + j % 26]) (by intro b hb; simp at hb; omega))) ?_
    refine M.go rfl ?_
    refine M.op trivial (SOp.bin (r := .str (nm j)) rfl rfl (by show strX .add [102] [97 + j / 26, 97 + j % 26] = some (.str (nm j)); simp [strX, nm])) ?_
    refine M.go rfl ?_
    refine M.freezeO (i := 34) rfl rfl rfl ?_
    rcases hA with ⟨h64, rfl, rfl, rfl⟩ | ⟨h64, rfl, rfl, rfl⟩
    · have hA1 := map1 (base := base) i (by omega) (some 1)
      have e2 : hMs (c + 1) = hD1 3 kB [] 0 (Fm (c + 1)) (c + 1) (ch 0) (Wm c) := by
        unfold hMs
        rw [show min (c + 1) 64 = c + 1 by omega, Nat.add_sub_cancel]
      rw [e2] at ih'
      rw [← hj] at hA1
      refine M.use trivial hA1 [(0, 0), (1, 1), (2, 2), (3, 3)] rfl rfl rfl (by repeat' (first | exact True.intro | refine ⟨⟨_, _, _, rfl, rfl, rfl, WkO.rfl⟩, ?_⟩ | refine HeapOK.acc rfl rfl ?_ | refine HeapOK.es rfl rfl ?_)) rfl rfl ?_
      refine M.go rfl ?_
      refine M.decB rfl (fun hh => absurd hh (by simp; omega)) (fun _ => ?_)
      refine M.go rfl ?_
      refine M.dec rfl (fun hh => absurd hh (by omega)) (fun _ => ?_)
      refine M.go rfl ?_
      rw [hw]
      exact M.again (XH.ren [(0, 0), (1, 1), (2, 2), (3, 6)] ih' rfl (by repeat' (first | exact True.intro | refine ⟨⟨_, _, rfl, rfl, Wk.rfl⟩, ?_⟩ | refine ⟨⟨_, _, accV_ren rfl, rfl, Wk.rfl⟩, ?_⟩ | refine ⟨⟨_, _, accV_ren rfl, rfl, Wk.acc0⟩, ?_⟩ | refine ⟨⟨_, _, rfl, rfl, Wk.uncap⟩, ?_⟩ | refine ⟨⟨_, _, rfl, rfl, Wk.nil⟩, ?_⟩)) (by repeat' (first | exact True.intro | refine ⟨⟨_, _, _, rfl, rfl, rfl, WkO.rfl⟩, ?_⟩ | refine HeapOK.acc rfl rfl ?_ | refine HeapOK.es rfl rfl ?_)))
    · have hA1 := mapF (base := base) j h64 (by omega) (some 1)
      have e2 : hMs (j + 1) = hD1 3 kB [] 0 (Fm 64) 64 (ch 0) (Wm 63) := by
        unfold hMs
        rw [show min (j + 1) 64 = 64 by omega]
      rw [e2] at ih'
      refine M.use trivial hA1 [(0, 0), (1, 1), (2, 2), (3, 3)] rfl rfl rfl (by repeat' (first | exact True.intro | refine ⟨⟨_, _, _, rfl, rfl, rfl, WkO.rfl⟩, ?_⟩ | refine HeapOK.acc rfl rfl ?_ | refine HeapOK.es rfl rfl ?_)) rfl rfl ?_
      refine M.go rfl ?_
      refine M.decB rfl (fun hh => absurd hh (by simp; omega)) (fun _ => ?_)
      refine M.go rfl ?_
      refine M.dec rfl (fun _ => ?_) (fun hh => absurd (by omega) hh)
      refine M.go rfl ?_
      refine M.condN rfl (fun hn => absurd rfl hn) (fun _ => ?_)
      refine M.go rfl ?_
      rw [hw]
      exact M.again (XH.ren [(0, 0), (1, 1), (2, 2), (3, 3)] ih' rfl (by repeat' (first | exact True.intro | refine ⟨⟨_, _, rfl, rfl, Wk.rfl⟩, ?_⟩ | refine ⟨⟨_, _, accV_ren rfl, rfl, Wk.rfl⟩, ?_⟩ | refine ⟨⟨_, _, accV_ren rfl, rfl, Wk.acc0⟩, ?_⟩ | refine ⟨⟨_, _, rfl, rfl, Wk.uncap⟩, ?_⟩ | refine ⟨⟨_, _, rfl, rfl, Wk.nil⟩, ?_⟩)) (by repeat' (first | exact True.intro | refine ⟨⟨_, _, _, rfl, rfl, rfl, WkO.rfl⟩, ?_⟩ | refine HeapOK.acc rfl rfl ?_ | refine HeapOK.es rfl rfl ?_)))
theorem DiskMany_spec (n : Int) : CallS Try.prog base 9 [.c (.p (.int .i64 n))] ⟨[], 0⟩ (.c (.p (.bool true))) ⟨[], 0⟩ := by
  refine CallS.of noNG lMa.2 rfl (M.start (M.go rfl ?_))
  refine M.use0 trivial begun3_spec rfl rfl rfl ?_
  refine M.go rfl ?_
  refine M.dec rfl (fun h1 => ?_) (fun h1 => ?_)
  · refine M.go rfl ?_
    exact M.ret (M.go rfl (M.done (finQ.ret [] rfl rfl rfl (by first | exact Wk.rfl | exact Wk.uncap | exact Wk.nil | exact Wk.b1 rfl | exact Wk.t2 Wk.rfl (Wk.b1 rfl)) (by repeat' (first | exact True.intro | refine ⟨⟨_, _, _, rfl, rfl, rfl, WkO.rfl⟩, ?_⟩ | refine HeapOK.acc rfl rfl ?_ | refine HeapOK.es rfl rfl ?_)))))
  refine M.go rfl ?_
  refine M.cond rfl (fun h2 => ?_) (fun h2 => ?_)
  · refine M.go rfl ?_
    exact M.ret (M.go rfl (M.done (finQ.ret [] rfl rfl rfl (by first | exact Wk.rfl | exact Wk.uncap | exact Wk.nil | exact Wk.b1 rfl | exact Wk.t2 Wk.rfl (Wk.b1 rfl)) (by repeat' (first | exact True.intro | refine ⟨⟨_, _, _, rfl, rfl, rfl, WkO.rfl⟩, ?_⟩ | refine HeapOK.acc rfl rfl ?_ | refine HeapOK.es rfl rfl ?_)))))
  obtain ⟨N, rfl⟩ : ∃ N : Nat, n = N := ⟨n.toNat, by omega⟩
  refine M.go rfl ?_
  refine M.use trivial (dnew_spec 1000) [] rfl rfl rfl trivial rfl rfl ?_
  refine M.go rfl ?_
  refine M.loop (M.round (M.go rfl ?_))
  by_cases h0 : N = 0
  · subst h0
    refine M.cond rfl (fun hn => absurd hn (by simp)) (fun _ => ?_)
    refine M.exit (M.go rfl (M.done (M.q (M.go rfl ?_))))
    refine M.use trivial (names_spec (hD0 kB [] 0 [] 0) kB 1 _ [] 0 rfl rfl (f0_ok 0) ⟨by simp, fun e he => (by cases he), by simp⟩) [(0, 0), (1, 1), (2, 2)] rfl rfl rfl (by repeat' (first | exact True.intro | refine ⟨⟨_, _, _, rfl, rfl, rfl, WkO.rfl⟩, ?_⟩ | refine HeapOK.acc rfl rfl ?_ | refine HeapOK.es rfl rfl ?_)) rfl rfl ?_
    refine M.go rfl ?_
    refine M.decC (s := 2) rfl (fun _ => ?_) (fun hn => absurd hn (by rw [KS_len]; decide))
    exact M.ret (M.go rfl (M.done (finQ.ret [] rfl rfl rfl (by first | exact Wk.rfl | exact Wk.uncap | exact Wk.nil | exact Wk.b1 rfl | exact Wk.t2 Wk.rfl (Wk.b1 rfl)) (by repeat' (first | exact True.intro | refine ⟨⟨_, _, _, rfl, rfl, rfl, WkO.rfl⟩, ?_⟩ | refine HeapOK.acc rfl rfl ?_ | refine HeapOK.es rfl rfl ?_)))))
  · refine M.cond rfl (fun _ => ?_) (fun hn => absurd (by omega) hn)
    refine M.go rfl ?_
    refine M.op trivial (SOp.quoK rfl rfl (by decide)) ?_
    refine M.go rfl ?_
    refine M.op trivial (SOp.remK rfl rfl (by decide)) ?_
    refine M.go rfl ?_
    refine M.freezeO (i := 31) rfl rfl rfl ?_
    refine M.op trivial (SOp.cvBS (l := [97, 97]) rfl rfl) ?_
    refine M.go rfl ?_
    refine M.op trivial (SOp.bin (r := .str (nm 0)) rfl rfl (by show strX .add [102] [97, 97] = some (.str (nm 0)); simp [strX, nm])) ?_
    refine M.go rfl ?_
    refine M.freezeO (i := 34) rfl rfl rfl ?_
    refine M.use trivial (map0 0 rfl (some 1)) [(0, 0), (1, 1), (2, 2)] rfl rfl rfl (by repeat' (first | exact True.intro | refine ⟨⟨_, _, _, rfl, rfl, rfl, WkO.rfl⟩, ?_⟩ | refine HeapOK.acc rfl rfl ?_ | refine HeapOK.es rfl rfl ?_)) rfl rfl ?_
    refine M.go rfl ?_
    refine M.decB rfl (fun hh => absurd hh (by decide)) (fun _ => ?_)
    refine M.go rfl ?_
    refine M.dec rfl (fun hh => absurd hh (by decide)) (fun _ => ?_)
    refine M.go rfl ?_
    refine M.again (XH.ren [(0, 0), (1, 1), (2, 2), (3, 5)] (many3_loop N (by omega) _ (fun h1 => ?_) (N - 1) 0 (by omega)) rfl (by repeat' (first | exact True.intro | refine ⟨⟨_, _, rfl, rfl, Wk.rfl⟩, ?_⟩ | refine ⟨⟨_, _, accV_ren rfl, rfl, Wk.rfl⟩, ?_⟩ | refine ⟨⟨_, _, accV_ren rfl, rfl, Wk.acc0⟩, ?_⟩ | refine ⟨⟨_, _, rfl, rfl, Wk.uncap⟩, ?_⟩ | refine ⟨⟨_, _, rfl, rfl, Wk.nil⟩, ?_⟩)) (by repeat' (first | exact True.intro | refine ⟨⟨_, _, _, rfl, rfl, rfl, WkO.rfl⟩, ?_⟩ | refine HeapOK.acc rfl rfl ?_ | refine HeapOK.es rfl rfl ?_)))
    refine M.q (M.go rfl (M.done (M.q (M.go rfl ?_))))
    refine M.use trivial (names_spec (hMs N) kB 1 _ (Fm (min N 64)) (min N 64) rfl rfl (Fm_ok _) (Fm_nok _ (by omega))) [(0, 0), (1, 1), (2, 2), (3, 3)] rfl rfl rfl (by repeat' (first | exact True.intro | refine ⟨⟨_, _, _, rfl, rfl, rfl, WkO.rfl⟩, ?_⟩ | refine HeapOK.acc rfl rfl ?_ | refine HeapOK.es rfl rfl ?_)) rfl rfl ?_
    refine M.go rfl ?_
    refine M.decC (s := 2) rfl (fun _ => ?_) (fun hn => absurd hn ?_)
    · exact M.ret (M.go rfl (M.done (finQ.ret [] rfl rfl rfl (by first | exact Wk.rfl | exact Wk.uncap | exact Wk.nil | exact Wk.b1 rfl | exact Wk.t2 Wk.rfl (Wk.b1 rfl)) (by repeat' (first | exact True.intro | refine ⟨⟨_, _, _, rfl, rfl, rfl, WkO.rfl⟩, ?_⟩ | refine HeapOK.acc rfl rfl ?_ | refine HeapOK.es rfl rfl ?_)))))
    · rw [KS_len, Fm_len]
      simp only [Bool.not_eq_false]
      refine decide_eq_true ?_
      unfold minI
      split <;> omega
theorem DiskMany_law {p0 : PC} (h0 : Is (.int .i64) p0) : CallS Try.prog base 9 [xvP p0] ⟨[], 0⟩ (.c (.p (.bool true))) ⟨[], 0⟩ := by
  obtain ⟨n, rfl, -⟩ := h0.i64
  exact DiskMany_spec n
end Go.Proofs.Ytjlfojgacnphmaa
