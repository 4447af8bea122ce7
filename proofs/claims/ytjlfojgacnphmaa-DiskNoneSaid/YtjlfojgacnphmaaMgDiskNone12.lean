/- Texts of this claim, several in one: D8, D9, D10. -/
import Derived.Test.YtjlfojgacnphmaaMgDiskNone11
import Derived.Sort.KeysCollected
namespace Go.Proofs.Ytjlfojgacnphmaa
open Go.RowKit Sim Go Sym
set_option maxRecDepth 100000
set_option linter.unusedVariables false
set_option linter.unusedSimpArgs false
variable {base : Nat}
section
variable {φ : Ph} {h : SH} {w w' : World}
theorem HR.row2 (hr : HR base φ h w) (hb : Below w.heap.size w w') {g : Nat} {o : Obj} (hg : w.heap.size ≤ g) (ho : w'.heap[g]? = some o) (ψ : Ph) (hψ : ψ = ⟨φ.f, fun m => if m = g then some o else φ.fm m⟩) (k : Nat) : HR base ψ h w' ∧ Le φ ψ ∧ Mo k φ ψ h w h w' := by
  subst hψ
  have hfm : ∀ m o', φ.fm m = some o' → m < w.heap.size := fun m o' hm => by
    have := (hr.froz m o' hm).1
    rw [Array.getElem?_eq_some_iff] at this
    exact this.1
  have hle : Le φ ⟨φ.f, fun m => if m = g then some o else φ.fm m⟩ := ⟨fun _ _ h => h, fun m o' hm => by
    have := hfm m o' hm
    show (if m = g then some o else φ.fm m) = some o'
    rw [if_neg (by omega)]; exact hm⟩
  refine ⟨⟨hr.dom, Nat.le_trans hr.lo hb.size, fun b q hq => ?_, fun m o' hm => ?_, hr.inj⟩, hle, ⟨fun b L hb h => h, fun m o' hm => hle.fm m o' hm, hb.os, hb.tape, hb.output, hb.size, fun q hq _ => hb.block q hq, fun b L hL => .inr ⟨b, L, hL, rfl⟩, fun b q L h1 h2 => .inr ⟨b, q, L, h1, h2, rfl⟩, fun m o' hm => ?_⟩⟩
  · obtain ⟨L, h1, h2⟩ := hr.live b q hq
    exact ⟨L, h1, Live.mono hle (hb.block _ h2.lt) h2⟩
  · by_cases e : m = g
    · subst e
      have hm' : some o = some o' := by have : (if m = m then some o else φ.fm m) = some o' := hm; rwa [if_pos rfl] at this
      cases hm'
      refine ⟨ho, fun b L ⟨q, h1, h2, h3⟩ => ?_⟩
      obtain ⟨L1, h4, h5⟩ := hr.live b q h1
      rw [show φ b = some L from h3] at h4; cases h4
      have := h5.lt
      omega
    · have hm' : φ.fm m = some o' := by have : (if m = g then some o else φ.fm m) = some o' := hm; rwa [if_neg e] at this
      exact ⟨(hb.block m (hfm m o' hm')).trans (hr.froz m o' hm').1, (hr.froz m o' hm').2⟩
  · by_cases e : m = g
    · exact .inr (.inl (by omega))
    · exact .inl (by have : (if m = g then some o else φ.fm m) = some o' := hm; rwa [if_neg e] at this)
theorem HR.below (hr : HR base φ h w) (hb : Below w.heap.size w w') (k : Nat) : HR base φ h w' ∧ Mo k φ φ h w h w' := by
  have hfm : ∀ m o', φ.fm m = some o' → m < w.heap.size := fun m o' hm => by
    have := (hr.froz m o' hm).1
    rw [Array.getElem?_eq_some_iff] at this
    exact this.1
  refine ⟨⟨hr.dom, Nat.le_trans hr.lo hb.size, fun b q hq => ?_, fun m o' hm => ⟨(hb.block m (hfm m o' hm)).trans (hr.froz m o' hm).1, (hr.froz m o' hm).2⟩, hr.inj⟩, ⟨fun b L hb h => h, fun m o' hm => hm, hb.os, hb.tape, hb.output, hb.size, fun q hq _ => hb.block q hq, fun b L hL => .inr ⟨b, L, hL, rfl⟩, fun b q L h1 h2 => .inr ⟨b, q, L, h1, h2, rfl⟩, fun m o' hm => .inl hm⟩⟩
  obtain ⟨L, h1, h2⟩ := hr.live b q hq
  exact ⟨L, h1, Live.mono (Le.refl φ) (hb.block _ h2.lt) h2⟩
end
def kb (l : List Nat) : List UInt8 := l.map UInt8.ofNat
theorem kb_of : ∀ l : List UInt8, kb (l.map UInt8.toNat) = l
  | [] => rfl
  | x :: l => by
    have := kb_of l
    simp only [kb, List.map_cons] at this ⊢
    rw [this, UInt8.ofNat_toNat]
def KS (F : FS) : List PC := ((F.map fun e => kb e.2.1).mergeSort (fun x y => decide (x ≤ y))).map fun bs => PC.str (bs.map UInt8.toNat)
theorem KS_len (F : FS) : (KS F).length = F.length := by simp [KS]
theorem ents_of {φ : Ph} : ∀ (F : FS) (l : List MapEntry), All2 (ER φ) ((mK KD.str (pv F)).map fun e => (e.1, e.2.1.sc, e.2.2.sv)) l → l.map (·.born) = F.map (·.1) ∧ ∃ ks : List (List UInt8), l.map (·.key) = ks.map encStr ∧ ks.map (fun k => k.map UInt8.toNat) = F.map (fun e => e.2.1)
  | [], l, h => by
    have := h.length
    simp [mK, pv] at this
    obtain rfl : l = [] := List.eq_nil_of_length_eq_zero this.symm
    exact ⟨rfl, [], rfl, rfl⟩
  | e :: F, l, h => by
    cases l with
    | nil => have := h.length; simp [mK, pv] at this
    | cons x l =>
      have h1 : ER φ (e.1, (XC.p (KD.str.kf e.2.1)).sc, (XV.c (.p e.2.2)).sv) x ∧ All2 (ER φ) ((mK KD.str (pv F)).map fun e => (e.1, e.2.1.sc, e.2.2.sv)) l := h
      obtain ⟨⟨g1, g2, g3⟩, g4⟩ := h1
      obtain ⟨i1, ks, i2, i3⟩ := ents_of F l g4
      have g2' : CR φ (.str e.2.1) x.key := g2
      obtain ⟨s, hs, hs2⟩ := g2'
      exact ⟨by simp [i1, g1], s.data.toList :: ks, by simp [i2, hs, encStr], by simp [i3, hs2]⟩
theorem str_at (bs : List UInt8) (φ : Ph) : CR φ (.str (bs.map UInt8.toNat)) (encStr bs) := ⟨⟨bs.toArray⟩, rfl, by simp⟩
theorem flatE_str : ∀ l : List (List UInt8), flatE 1 (l.map fun bs => PC.str (bs.map UInt8.toNat)) = l.map fun bs => SC.str (bs.map UInt8.toNat)
  | [] => rfl
  | x :: l => by
    have := flatE_str l
    simp only [List.map_cons, flatE] at this ⊢
    rw [this]; rfl
def RT : Value → Option (DataW Unit × List MemPlace) := fun _ => some (.nil, [])
theorem key_str (k : List UInt8) (h : k.length ≤ 1000) : Go.keyOf Try.prog 9 (encStr k) = some (.string k) := by
  have h2 : k.length ≤ maxLen := Nat.le_trans h (by decide)
  have h3 : (⟨k.toArray⟩ : ByteArray).size ≤ maxLen := by show k.toArray.size ≤ maxLen; simpa using h2
  simp [Go.keyOf, Try.underlying9, mapKey, encStr, h3]
theorem rgs : ∀ (l : List MapEntry) (ks : List (List UInt8)), l.map (·.key) = ks.map encStr → (∀ k ∈ ks, k.length ≤ 1000) → (∀ x ∈ l, ∃ y, WideElems.rd Try.prog 9 RT x = some y) ∧ l.map (WideElems.rg Try.prog 9 RT) = ks.map fun k => (Lit.string k, DataW.nil)
  | [], ks, h, _ => by
    cases ks with
    | nil => exact ⟨fun x hx => (by cases hx), rfl⟩
    | cons k ks => cases h
  | x :: l, ks, h, hk => by
    cases ks with
    | nil => cases h
    | cons k ks =>
      simp only [List.map_cons, List.cons.injEq] at h
      obtain ⟨h1, h2⟩ := rgs l ks h.2 fun k hk' => hk k (by simp [hk'])
      have h3 : WideElems.rd Try.prog 9 RT x = some (Lit.string k, DataW.nil) := by
        unfold WideElems.rd
        rw [h.1, key_str k (hk k (by simp))]
        rfl
      refine ⟨fun y hy => ?_, ?_⟩
      · rcases List.mem_cons.1 hy with rfl | hy
        · exact ⟨_, h3⟩
        · exact h1 y hy
      · simp only [List.map_cons, h2, WideElems.rg_of h3]
structure NOK (F : FS) : Prop where
  nd : (F.map (fun e => e.2.1)).Nodup
  len : ∀ e ∈ F, e.2.1.length ≤ 1000
  sz : F.length ≤ 1000000
theorem names_spec (h : HS) (room : Int) (bl : Nat) (x : XC) (F : FS) (c : Nat) (hrow : h.get 0 = some (.row [.p (.int .i64 room), .mp bl, .mp 2, x] true)) (hmap : h.get 2 = some (fM F c)) (hF : FOK F c) (hN : NOK F) : CallS Try.prog base 34 [.c (.ptr 0 0)] h (.c (.p (.tz true 1 (KS F) none))) h := by
  refine ⟨⟨Try.f34, Try.func34, by kernel_rfl, noNG _ _ Try.func34⟩, fun φ args' w ha hr => ?_⟩
  obtain ⟨v0, rfl, hv0⟩ := all2_one ha
  have hv0' : CR φ (.ptr 0 0) v0 := hv0
  obtain ⟨L, hL, rfl⟩ := hv0'
  obtain ⟨L', hL', hlen, cs, E, fr, hheap, hcells, hown⟩ := hr.live 0 _ (get_row hrow)
  rw [hL] at hL'; cases hL'
  obtain ⟨v2, hv2, hc2⟩ := hcells 2 (XC.mp 2).sc rfl
  have hc2' : CR φ (.mp (some 2)) v2 := hc2
  obtain ⟨L2, hL2, rfl⟩ := hc2'
  have hg2 : h.sh.get 2 = some (XO.map (mK KD.str (pv F)) c).so := by rw [HS.get_sh, hmap]; show some (XO.pm _ _).so = _; rw [pm_so, up_pK]
  obtain ⟨L2', hL2', hb2, vs, hheap2, hall⟩ := hr.live 2 _ hg2
  rw [hL2] at hL2'; cases hL2'
  obtain ⟨e1, ks, e2, e3⟩ := ents_of F vs.toList hall
  have hks : ks = F.map fun e => kb e.2.1 := by
    have := congrArg (List.map kb) e3
    rw [List.map_map, List.map_map] at this
    have hid : ks.map (kb ∘ fun k => k.map UInt8.toNat) = ks := by
      conv => rhs; rw [← List.map_id ks]
      exact List.map_congr_left fun k _ => kb_of k
    rw [hid] at this
    exact this
  have hvl : vs.toList.length = F.length := by have := congrArg List.length e1; simpa using this
  have hkn : ks.Nodup := by
    have h1 := hN.nd
    rw [← e3] at h1
    exact (List.pairwise_map.1 h1).imp fun hne e => hne (by rw [e])
  have hkl : ∀ k ∈ ks, k.length ≤ 1000 := fun k hk => by
    rw [hks, List.mem_map] at hk
    obtain ⟨e, he, rfl⟩ := hk
    have := hN.len e he
    simpa [kb] using this
  obtain ⟨q1, q2⟩ := rgs vs.toList ks e2 hkl
  have hfit : WideElems.Fit Try.prog 9 RT vs c := by
    refine ⟨?_, ⟨?_, ?_, ?_⟩, q1⟩
    · rw [← Array.length_toList, hvl]; exact Nat.le_trans hN.sz (by decide)
    · intro y hy
      have h1 : y.born ∈ vs.toList.map (·.born) := List.mem_map.2 ⟨y, hy, rfl⟩
      rw [e1, List.mem_map] at h1
      obtain ⟨e, he, hee⟩ := h1
      rw [← hee]; exact hF.old e he
    · rw [e1]; exact hF.nd
    · rw [e2]; exact List.pairwise_map.2 (hkn.imp fun hne e => hne (encStr_inj e))
  obtain ⟨D0, hD0⟩ : ∃ D0 : DataW Unit, D0 = .map ((vs.toList.map (WideElems.rg Try.prog 9 RT)).foldr DataW.insert []) := ⟨_, rfl⟩
  have hsp := WideShapes.sorted_perm (vs.toList.map (WideElems.rg Try.prog 9 RT))
  have hown2 : w.ownsMap Try.prog 9 RT L2.m vs.size D0 := ⟨vs, c, hheap2, hfit, Nat.le_refl _, hD0⟩
  have hsz : Maps.size D0 = F.length := by
    rw [hD0]
    show List.length _ = _
    rw [hsp.length_eq, List.length_map, hvl]
  have hsk : (strKeys D0).Perm ks := by
    rw [hD0]
    have h1 := hsp.map fun p => strOf p.1
    rw [q2, List.map_map] at h1
    have hid : ks.map ((fun p : Lit × DataW Unit => strOf p.1) ∘ fun k => (Lit.string k, DataW.nil)) = ks := by
      conv => rhs; rw [← List.map_id ks]
      exact List.map_congr_left fun k _ => rfl
    rw [hid] at h1
    rw [q2]
    exact h1
  have hcell : w.cell? ⟨L.m, L.m0 + 0 + 2, none⟩ = some (.map (some L2.m)) := by
    have : w.heap[L.m]? = some (.cells cs E fr) := hheap
    simp [World.cell?, this, hv2]
  refine Calls.mono (names_calls w L.m (L.m0 + 0) L2.m vs.size D0 RT hcell hown2 (by rw [hsz]; exact Nat.le_trans hN.sz (by decide)) (by rw [hsz]; have := hN.sz; omega)) fun en w' hp => ?_
  obtain ⟨v, ss, rfl, hS, hrow2, hnil, hb⟩ := hp
  have hss : ss.mergeSort (fun x y => decide (x ≤ y)) = (F.map fun e => kb e.2.1).mergeSort (fun x y => decide (x ≤ y)) := by
    rw [← hks]; exact mergeSort_of_perm (hS.trans hsk)
  rw [hss] at hrow2
  obtain ⟨M, hM⟩ : ∃ M, M = (F.map fun e => kb e.2.1).mergeSort (fun x y => decide (x ≤ y)) := ⟨_, rfl⟩
  have hKS : KS F = M.map fun bs => PC.str (bs.map UInt8.toNat) := by rw [KS, hM]
  have hMl : M.length = F.length := by rw [hM]; simp
  have hsl : ss.length = F.length := by rw [(hS.trans hsk).length_eq, hks]; simp
  rw [← hM] at hrow2
  rw [hKS]
  by_cases h0 : ss = []
  · have hv := hnil.2 h0
    have hM0 : M = [] := List.eq_nil_of_length_eq_zero (by rw [hMl, ← hsl, h0]; rfl)
    obtain ⟨g1, g2⟩ := HR.below hr hb h.next
    exact ⟨v, φ, rfl, by rw [hM0, hv]; exact (rfl : CR φ .nils (.slice none 0 0)), g1, g2⟩
  · rcases hrow2 with ⟨_, ⟨hv, _⟩ | ⟨g, cap, cur, hv, hbg, hg, hnc, hcm, hcs, htk⟩⟩
    · exact absurd (hnil.1 hv) h0
    · obtain ⟨ψ, hψ⟩ : ∃ ψ : Ph, ψ = ⟨φ.f, fun m => if m = g then some (.cells cur 9 (0, 0)) else φ.fm m⟩ := ⟨_, rfl⟩
      obtain ⟨g1, g2, g3⟩ := HR.row2 hr hb hbg hg ψ hψ h.next
      have hne : M ≠ [] := by intro e; rw [e] at hMl; exact h0 (List.eq_nil_of_length_eq_zero (by rw [hsl, ← hMl]; rfl))
      refine ⟨v, ψ, rfl, ?_, g1, g3⟩
      have hz : (true && (M.map fun bs => PC.str (bs.map UInt8.toNat)).isEmpty) = false := by cases M <;> simp_all
      show CR ψ (PC.tz true 1 (M.map fun bs => PC.str (bs.map UInt8.toNat)) none).sc v
      simp only [PC.sc, hz, cond_false]
      refine ⟨by simp [flatE_len], ⟨g, 0, none⟩, cap, ?_, ?_, ?_, ?_, ?_⟩
      · rw [hv, hsl, List.length_map, hMl]
      · rw [List.length_map, hMl, ← hsl]; exact hnc
      · exact hcm
      · intro c' hc'; cases hc'
      refine CRs.mk fun j x hx => ?_
      rw [flatE_str, List.getElem?_map, Option.map_eq_some_iff] at hx
      obtain ⟨bs, hbs, rfl⟩ := hx
      refine ⟨encStr bs, ?_, str_at bs ψ⟩
      have hj := (List.getElem?_eq_some_iff.1 hbs).1
      have h1 : (cur.toList.take (ss.length * 1))[j]? = some (encStr bs) := by rw [htk, List.getElem?_map, hbs]; rfl
      rw [List.getElem?_take] at h1
      split at h1
      · rw [hψ]
        have h2 : cur[j]? = some (encStr bs) := by simpa using h1
        have hadd : (⟨g, 0, none⟩ : Addr).add (0 + j) = ⟨g, j, none⟩ := by
          simp only [Addr.add, Nat.zero_add]
          split <;> simp_all
        rw [hadd]
        simp [Ph.cell, h2]
      · cases h1
end Go.Proofs.Ytjlfojgacnphmaa

namespace Go.Proofs.Ytjlfojgacnphmaa
open Go.RowKit Sim Go Sym
set_option maxRecDepth 100000
set_option linter.unusedVariables false
set_option linter.unusedSimpArgs false
variable {base : Nat}
theorem apF_ne {z : Bool} {old new : List Int} (h : new ≠ []) : apF z old new = fP false (old ++ new) none := if_neg h
def f1 (name : List Nat) (f : PC) : FS := [(0, name, f)]
theorem f1_ok (name : List Nat) (z : Bool) (bs : List Int) (cp : Option Nat) : FOK (f1 name (fP z bs cp)) 1 := ⟨fun e he => by simp [f1] at he; subst he; simp, by simp [f1], fun e he => by simp [f1] at he; subst he; exact ⟨z, bs, cp, rfl⟩⟩
theorem f0_ok (c : Nat) : FOK [] c := ⟨fun e he => (by cases he), (by simp), fun e he => (by cases he)⟩
theorem do_first (name to : List Nat) (n : Int) (zb : Bool) (b : List Int) (cb : Option Nat) (hb : b.length ≤ 100000000) (h0 : b ≠ []) : CallS Try.prog base 66 [.c (.mp 0), .agg ((chX 0 name to (fP zb b cb) n).map XC.p), .c (.p (.int .i64 b.length))] ⟨[(0, some (fM [] 0))], 1⟩ (.tup []) ⟨[(0, some (fM (f1 name (fP false b none)) 1))], 1⟩ := by
  have := do_app0 (base := base) [] 0 name to n rfl zb b cb b.length (Nat.le_refl _) hb
  rw [List.take_length, apF_ne h0] at this
  exact this
theorem may_a : CallS Try.prog base 70 [.c (.p (.str [97]))] ⟨[], 0⟩ (.c (.p (.bool true))) ⟨[], 0⟩ := CallS.reck (m := 200) (h' := noMem) mixed noNG (by kernel_rfl)
noncomputable def lBg3 : {F : LF // lowerF Try.prog 32 = some F} := ⟨_, rfl⟩
theorem begun3_spec : CallS Try.prog base 32 [] ⟨[], 0⟩ (.c (.p (.bool true))) ⟨[], 0⟩ := by
  refine CallS.of noNG lBg3.2 rfl (M.start (M.go rfl ?_))
  refine M.use trivial (dnew_spec 100) [] rfl rfl rfl trivial rfl rfl ?_
  refine M.go rfl ?_
  refine M.op trivial (SOp.cvO rfl rfl (by decide)) ?_
  refine M.freezeO (i := 11) rfl rfl rfl ?_
  refine M.use trivial (append0_spec (roomI 100) [] 0 [] 0 [97] false [120, 121, 122] (some 3) may_a (f0_ok 0) (by decide) (by decide) (.inr (by decide)) _ _ (do_first [97] [] 0 false [120, 121, 122] none (by decide) (by decide))) [(0, 0), (1, 1), (2, 2)] rfl rfl rfl (by repeat' (first | exact True.intro | refine ⟨⟨_, _, _, rfl, rfl, rfl, WkO.rfl⟩, ?_⟩ | refine HeapOK.acc rfl rfl ?_ | refine HeapOK.es rfl rfl ?_)) rfl rfl ?_
  refine M.go rfl ?_
  have hcr : CrR 0 2 [⟨0, [97], [], false, [120, 121, 122], none, 0⟩] 0 ([], 0) (f1 [97] (fP false [120, 121] none), 1) := by
    refine ⟨_, ?_, rfl⟩
    rw [Cr1, if_neg (by decide), if_pos (by decide)]
    have := Do.new (x := ⟨0, [97], [], false, [120, 121, 122], none, 0⟩) (k := 2) (F := []) (c := 0) rfl (by decide) (by decide) rfl
    rw [apF_ne (by decide)] at this
    exact this
  refine M.use trivial (crash1_spec (roomI 100) [] 0 (f1 [97] (fP false [120, 121, 122] none)) 1 _ _ [⟨0, [97], [], false, [120, 121, 122], none, 0⟩] rfl (by decide) 0 2 _ hcr) [(0, 0), (1, 1), (2, 2), (3, 4)] rfl rfl rfl (by repeat' (first | exact True.intro | refine ⟨⟨_, _, _, rfl, rfl, rfl, WkO.rfl⟩, ?_⟩ | refine HeapOK.acc rfl rfl ?_ | refine HeapOK.es rfl rfl ?_)) rfl rfl ?_
  refine M.go rfl ?_
  refine M.use trivial (read0_spec (roomI 100) (f1 [97] (fP false [120, 121] none)) 1 (f1 [97] (fP false [120, 121] none)) 1 [97] false [120, 121] none rfl (by decide)) [(0, 5), (1, 6), (2, 7)] rfl rfl rfl (by repeat' (first | exact True.intro | refine ⟨⟨_, _, _, rfl, rfl, rfl, WkO.rfl⟩, ?_⟩ | refine HeapOK.acc rfl rfl ?_ | refine HeapOK.es rfl rfl ?_)) rfl rfl ?_
  refine M.go rfl ?_
  refine M.dec rfl (fun _ => ?_) (fun hn => absurd (by decide) hn)
  refine M.go rfl ?_
  refine M.op (by first | exact True.intro | exact rfl) (SOp.cvBS (l := [120, 121]) rfl rfl) ?_
  refine M.go rfl ?_
  refine M.decB rfl (fun _ => ?_) (fun hn => by cases hn)
  refine M.go rfl ?_
  refine M.use (by first | exact True.intro | exact rfl) (used1_spec (roomI 100) [] 0 (f1 [97] (fP false [120, 121, 122] none)) 1 _ _ (f1_ok _ _ _ _) (by decide)) [(0, 0), (1, 1), (2, 2), (3, 4)] rfl rfl rfl (by repeat' (first | exact True.intro | refine ⟨⟨_, _, _, rfl, rfl, rfl, WkO.rfl⟩, ?_⟩ | refine HeapOK.acc rfl rfl ?_ | refine HeapOK.es rfl rfl ?_)) rfl rfl ?_
  refine M.go rfl ?_
  refine M.dec rfl (fun _ => ?_) (fun hn => absurd (by decide) hn)
  refine M.go rfl ?_
  refine M.use (by first | exact True.intro | exact rfl) (waiting1_spec (roomI 100) [] 0 (f1 [97] (fP false [120, 121, 122] none)) 1 _ _) [(0, 0), (1, 1), (2, 2), (3, 4)] rfl rfl rfl (by repeat' (first | exact True.intro | refine ⟨⟨_, _, _, rfl, rfl, rfl, WkO.rfl⟩, ?_⟩ | refine HeapOK.acc rfl rfl ?_ | refine HeapOK.es rfl rfl ?_)) rfl rfl ?_
  refine M.go rfl ?_
  refine M.dec rfl (fun _ => ?_) (fun hn => absurd (by decide) hn)
  refine M.go rfl ?_
  refine M.use (by first | exact True.intro | exact rfl) (remove1_none (roomI 100) [] 0 (f1 [97] (fP false [120, 121, 122] none)) 1 _ _ [98] rfl) [(0, 0), (1, 1), (2, 2), (3, 4)] rfl rfl rfl (by repeat' (first | exact True.intro | refine ⟨⟨_, _, _, rfl, rfl, rfl, WkO.rfl⟩, ?_⟩ | refine HeapOK.acc rfl rfl ?_ | refine HeapOK.es rfl rfl ?_)) rfl rfl ?_
  refine M.go rfl ?_
  refine M.dec rfl (fun _ => ?_) (fun hn => absurd (by decide) hn)
  refine M.go rfl ?_
  refine M.use (by first | exact True.intro | exact rfl) (names_spec (hD1 3 (roomI 100) [] 0 (f1 [97] (fP false [120, 121, 122] none)) 1 _ _) (roomI 100) 1 _ (f1 [97] (fP false [120, 121, 122] none)) 1 rfl rfl (f1_ok _ _ _ _) ⟨by simp [f1], fun e he => by simp [f1] at he; subst he; simp, by simp [f1]⟩) [(0, 0), (1, 1), (2, 2), (3, 4)] rfl rfl rfl (by repeat' (first | exact True.intro | refine ⟨⟨_, _, _, rfl, rfl, rfl, WkO.rfl⟩, ?_⟩ | refine HeapOK.acc rfl rfl ?_ | refine HeapOK.es rfl rfl ?_)) rfl rfl ?_
  refine M.go rfl ?_
  refine M.decC (s := 0) rfl (fun _ => ?_) (fun hn => absurd hn (by rw [KS_len]; decide))
  exact M.ret (M.go rfl (M.done (finQ.ret [] rfl rfl rfl (by first | exact Wk.rfl | exact Wk.uncap | exact Wk.nil | exact Wk.b1 rfl | exact Wk.t2 Wk.rfl (Wk.b1 rfl)) (by repeat' (first | exact True.intro | refine ⟨⟨_, _, _, rfl, rfl, rfl, WkO.rfl⟩, ?_⟩ | refine HeapOK.acc rfl rfl ?_ | refine HeapOK.es rfl rfl ?_)))))
end Go.Proofs.Ytjlfojgacnphmaa

namespace Go.Proofs.Ytjlfojgacnphmaa
open Go.RowKit Sim Go Sym
set_option maxRecDepth 100000
set_option linter.unusedVariables false
set_option linter.unusedSimpArgs false
variable {base : Nat}
theorem sync_nil : CallS Try.prog base 35 [.c (.p .nilp)] ⟨[], 0⟩ (.tup []) ⟨[], 0⟩ := by
  refine CallS.of noNG lSync.2 rfl (M.start (M.go rfl ?_))
  exact M.done (finQ.normal [] rfl rfl rfl Wk.rfl trivial)
noncomputable def lDRo : {F : LF // lowerF Try.prog 38 = some F} := ⟨_, rfl⟩
theorem room_nil : CallS Try.prog base 38 [.c (.p .nilp), .c (.p (.int .i64 5))] ⟨[], 0⟩ (.tup []) ⟨[], 0⟩ := by
  refine CallS.of noNG lDRo.2 rfl (M.start (M.go rfl ?_))
  exact M.done (finQ.normal [] rfl rfl rfl Wk.rfl trivial)
theorem read_nil : CallS Try.prog base 36 [.c (.p .nilp), .c (.p (.str [97]))] ⟨[], 0⟩ (.tup [.c (.p (.tz true 0 [] none)), .c (.p (.bool false))]) ⟨[], 0⟩ := by
  refine CallS.of noNG lDRd.2 rfl (M.start (M.go rfl ?_))
  exact M.ret (M.go rfl (M.done (finQ.ret [] rfl rfl rfl (Wk.of rfl) (by repeat' (first | exact True.intro | refine ⟨⟨_, _, _, rfl, rfl, rfl, WkO.rfl⟩, ?_⟩ | refine HeapOK.acc rfl rfl ?_ | refine HeapOK.es rfl rfl ?_)))))
theorem append_nil3 : CallS Try.prog base 33 [.c (.p .nilp), .c (.p (.str [97])), .c (.p (.tz true 0 [] none))] ⟨[], 0⟩ (.c (.p (.int .i64 1))) ⟨[], 0⟩ := CallS.reck (m := 200) (h' := noMem) mixed noNG (by kernel_rfl)
theorem cut_nil3 : CallS Try.prog base 39 [.c (.p .nilp), .c (.p (.str [97])), .c (.p (.int .i64 0))] ⟨[], 0⟩ (.c (.p (.int .i64 1))) ⟨[], 0⟩ := CallS.reck (m := 200) (h' := noMem) mixed noNG (by kernel_rfl)
theorem remove_nil3 : CallS Try.prog base 40 [.c (.p .nilp), .c (.p (.str [97]))] ⟨[], 0⟩ (.c (.p (.int .i64 1))) ⟨[], 0⟩ := CallS.reck (m := 200) (h' := noMem) mixed noNG (by kernel_rfl)
theorem move_nil3 : CallS Try.prog base 37 [.c (.p .nilp), .c (.p (.str [97])), .c (.p (.str [98]))] ⟨[], 0⟩ (.c (.p (.int .i64 1))) ⟨[], 0⟩ := CallS.reck (m := 200) (h' := noMem) mixed noNG (by kernel_rfl)
theorem names_nil3 : CallS Try.prog base 34 [.c (.p .nilp)] ⟨[], 0⟩ (.c (.p (.tz true 0 [] none))) ⟨[], 0⟩ := CallS.reck (m := 200) (h' := noMem) mixed noNG (by kernel_rfl)
theorem used_nil3 : CallS Try.prog base 41 [.c (.p .nilp)] ⟨[], 0⟩ (.c (.p (.int .i64 0))) ⟨[], 0⟩ := CallS.reck (m := 200) (h' := noMem) mixed noNG (by kernel_rfl)
theorem waiting_nil3 : CallS Try.prog base 42 [.c (.p .nilp)] ⟨[], 0⟩ (.c (.p (.int .i64 0))) ⟨[], 0⟩ := CallS.reck (m := 200) (h' := noMem) mixed noNG (by kernel_rfl)
theorem crash_nil3 : CallS Try.prog base 23 [.c (.p .nilp), .c (.p (.int .i64 0)), .c (.p (.int .i64 0))] ⟨[], 0⟩ (.c (.p .nilp)) ⟨[], 0⟩ := CallS.reck (m := 200) (h' := noMem) mixed noNG (by kernel_rfl)
noncomputable def lDNo : {F : LF // lowerF Try.prog 12 = some F} := ⟨_, rfl⟩
theorem DiskNone_law : CallS Try.prog base 12 [] ⟨[], 0⟩ (.c (.p (.bool true))) ⟨[], 0⟩ := by
  refine CallS.of noNG lDNo.2 rfl (M.start (M.go rfl ?_))
  refine M.use0 trivial sync_nil rfl rfl rfl ?_
  refine M.go rfl ?_
  refine M.use0 trivial room_nil rfl rfl rfl ?_
  refine M.go rfl ?_
  refine M.use0 trivial read_nil rfl rfl rfl ?_
  refine M.go rfl ?_
  refine M.use0 trivial begun3_spec rfl rfl rfl ?_
  refine M.go rfl ?_
  refine M.use0 (by first | exact True.intro | exact rfl) append_nil3 rfl rfl rfl ?_
  refine M.go rfl ?_
  refine M.dec rfl (fun _ => ?_) (fun hn => absurd (by decide) hn)
  refine M.go rfl ?_
  refine M.use0 (by first | exact True.intro | exact rfl) cut_nil3 rfl rfl rfl ?_
  refine M.go rfl ?_
  refine M.dec rfl (fun _ => ?_) (fun hn => absurd (by decide) hn)
  refine M.go rfl ?_
  refine M.use0 (by first | exact True.intro | exact rfl) remove_nil3 rfl rfl rfl ?_
  refine M.go rfl ?_
  refine M.dec rfl (fun _ => ?_) (fun hn => absurd (by decide) hn)
  refine M.go rfl ?_
  refine M.use0 (by first | exact True.intro | exact rfl) move_nil3 rfl rfl rfl ?_
  refine M.go rfl ?_
  refine M.dec rfl (fun _ => ?_) (fun hn => absurd (by decide) hn)
  refine M.go rfl ?_
  refine M.use0 (by first | exact True.intro | exact rfl) names_nil3 rfl rfl rfl ?_
  refine M.go rfl ?_
  refine M.dec rfl (fun _ => ?_) (fun hn => absurd (by decide) hn)
  refine M.go rfl ?_
  refine M.use0 (by first | exact True.intro | exact rfl) used_nil3 rfl rfl rfl ?_
  refine M.go rfl ?_
  refine M.dec rfl (fun _ => ?_) (fun hn => absurd (by decide) hn)
  refine M.go rfl ?_
  refine M.use0 (by first | exact True.intro | exact rfl) waiting_nil3 rfl rfl rfl ?_
  refine M.go rfl ?_
  refine M.dec rfl (fun _ => ?_) (fun hn => absurd (by decide) hn)
  refine M.go rfl ?_
  refine M.use0 (by first | exact True.intro | exact rfl) crash_nil3 rfl rfl rfl ?_
  refine M.go rfl ?_
  exact M.ret (M.go rfl (M.done (finQ.ret [] rfl rfl rfl (by first | exact Wk.rfl | exact Wk.uncap | exact Wk.nil | exact Wk.b1 rfl | exact Wk.t2 Wk.rfl (Wk.b1 rfl)) (by repeat' (first | exact True.intro | refine ⟨⟨_, _, _, rfl, rfl, rfl, WkO.rfl⟩, ?_⟩ | refine HeapOK.acc rfl rfl ?_ | refine HeapOK.es rfl rfl ?_)))))
theorem diskNone_calls (w : World) : Calls Try.prog 12 #[] w fun e w' => e = .returned (.bool true) ∧ Below w.heap.size w w' := CallS.law DiskNone_law (args' := []) trivial
end Go.Proofs.Ytjlfojgacnphmaa
