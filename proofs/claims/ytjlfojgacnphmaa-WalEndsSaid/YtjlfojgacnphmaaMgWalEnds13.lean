/- Texts of this claim, several in one: D8, D9, D10, D11, D12, D14, D15, W1, W2, W4, W5, W6, W7, W12, W15, W13. -/
import Derived.Test.YtjlfojgacnphmaaMgWalEnds12
import Derived.Sort.KeysCollected
namespace Go.Proofs.Ytjlfojgacnphmaa
open Go.RowKit Sim Go Sym
set_option maxRecDepth 100000
set_option linter.unusedVariables false
set_option linter.unusedSimpArgs false
variable {base : Nat}
section
variable {φ : Ph} {h : SH} {w w' : World}
theorem HR.row2 (hr : HR base φ h w) (hb : Below w.heap.size w w') {g : Nat} {o : Obj} (hg : w.heap.size ≤ g) (ho : w'.heap[g]? = some o) (ψ : Ph) (hψ : ψ = ⟨φ.f, fun m => if m = g then some o else φ.fm m⟩) (k : Nat) : HR base ψ h w' ∧ Le φ ψ ∧ Mo k φ ψ h w h w' := by
  subst hψ
  have hfm : ∀ m o', φ.fm m = some o' → m < w.heap.size := fun m o' hm => by
    have := (hr.froz m o' hm).1
    rw [Array.getElem?_eq_some_iff] at this
    exact this.1
  have hle : Le φ ⟨φ.f, fun m => if m = g then some o else φ.fm m⟩ := ⟨fun _ _ h => h, fun m o' hm => by
    have := hfm m o' hm
    show (if m = g then some o else φ.fm m) = some o'
    rw [if_neg (by omega)]; exact hm⟩
  refine ⟨⟨hr.dom, Nat.le_trans hr.lo hb.size, fun b q hq => ?_, fun m o' hm => ?_, hr.inj⟩, hle, ⟨fun b L hb h => h, fun m o' hm => hle.fm m o' hm, hb.os, hb.tape, hb.output, hb.size, fun q hq _ => hb.block q hq, fun b L hL => .inr ⟨b, L, hL, rfl⟩, fun b q L h1 h2 => .inr ⟨b, q, L, h1, h2, rfl⟩, fun m o' hm => ?_⟩⟩
  · obtain ⟨L, h1, h2⟩ := hr.live b q hq
    exact ⟨L, h1, Live.mono hle (hb.block _ h2.lt) h2⟩
  · by_cases e : m = g
    · subst e
      have hm' : some o = some o' := by have : (if m = m then some o else φ.fm m) = some o' := hm; rwa [if_pos rfl] at this
      cases hm'
      refine ⟨ho, fun b L ⟨q, h1, h2, h3⟩ => ?_⟩
      obtain ⟨L1, h4, h5⟩ := hr.live b q h1
      rw [show φ b = some L from h3] at h4; cases h4
      have := h5.lt
      omega
    · have hm' : φ.fm m = some o' := by have : (if m = g then some o else φ.fm m) = some o' := hm; rwa [if_neg e] at this
      exact ⟨(hb.block m (hfm m o' hm')).trans (hr.froz m o' hm').1, (hr.froz m o' hm').2⟩
  · by_cases e : m = g
    · exact .inr (.inl (by omega))
    · exact .inl (by have : (if m = g then some o else φ.fm m) = some o' := hm; rwa [if_neg e] at this)
theorem HR.below (hr : HR base φ h w) (hb : Below w.heap.size w w') (k : Nat) : HR base φ h w' ∧ Mo k φ φ h w h w' := by
  have hfm : ∀ m o', φ.fm m = some o' → m < w.heap.size := fun m o' hm => by
    have := (hr.froz m o' hm).1
    rw [Array.getElem?_eq_some_iff] at this
    exact this.1
  refine ⟨⟨hr.dom, Nat.le_trans hr.lo hb.size, fun b q hq => ?_, fun m o' hm => ⟨(hb.block m (hfm m o' hm)).trans (hr.froz m o' hm).1, (hr.froz m o' hm).2⟩, hr.inj⟩, ⟨fun b L hb h => h, fun m o' hm => hm, hb.os, hb.tape, hb.output, hb.size, fun q hq _ => hb.block q hq, fun b L hL => .inr ⟨b, L, hL, rfl⟩, fun b q L h1 h2 => .inr ⟨b, q, L, h1, h2, rfl⟩, fun m o' hm => .inl hm⟩⟩
  obtain ⟨L, h1, h2⟩ := hr.live b q hq
  exact ⟨L, h1, Live.mono (Le.refl φ) (hb.block _ h2.lt) h2⟩
end
def kb (l : List Nat) : List UInt8 := l.map UInt8.ofNat
theorem kb_of : ∀ l : List UInt8, kb (l.map UInt8.toNat) = l
  | [] => rfl
  | x :: l => by
    have := kb_of l
    simp only [kb, List.map_cons] at this ⊢
    rw [this, UInt8.ofNat_toNat]
def KS (F : FS) : List PC := ((F.map fun e => kb e.2.1).mergeSort (fun x y => decide (x ≤ y))).map fun bs => PC.str (bs.map UInt8.toNat)
theorem KS_len (F : FS) : (KS F).length = F.length := by simp [KS]
theorem ents_of {φ : Ph} : ∀ (F : FS) (l : List MapEntry), All2 (ER φ) ((mK KD.str (pv F)).map fun e => (e.1, e.2.1.sc, e.2.2.sv)) l → l.map (·.born) = F.map (·.1) ∧ ∃ ks : List (List UInt8), l.map (·.key) = ks.map encStr ∧ ks.map (fun k => k.map UInt8.toNat) = F.map (fun e => e.2.1)
  | [], l, h => by
    have := h.length
    simp [mK, pv] at this
    obtain rfl : l = [] := List.eq_nil_of_length_eq_zero this.symm
    exact ⟨rfl, [], rfl, rfl⟩
  | e :: F, l, h => by
    cases l with
    | nil => have := h.length; simp [mK, pv] at this
    | cons x l =>
      have h1 : ER φ (e.1, (XC.p (KD.str.kf e.2.1)).sc, (XV.c (.p e.2.2)).sv) x ∧ All2 (ER φ) ((mK KD.str (pv F)).map fun e => (e.1, e.2.1.sc, e.2.2.sv)) l := h
      obtain ⟨⟨g1, g2, g3⟩, g4⟩ := h1
      obtain ⟨i1, ks, i2, i3⟩ := ents_of F l g4
      have g2' : CR φ (.str e.2.1) x.key := g2
      obtain ⟨s, hs, hs2⟩ := g2'
      exact ⟨by simp [i1, g1], s.data.toList :: ks, by simp [i2, hs, encStr], by simp [i3, hs2]⟩
theorem str_at (bs : List UInt8) (φ : Ph) : CR φ (.str (bs.map UInt8.toNat)) (encStr bs) := ⟨⟨bs.toArray⟩, rfl, by simp⟩
theorem flatE_str : ∀ l : List (List UInt8), flatE 1 (l.map fun bs => PC.str (bs.map UInt8.toNat)) = l.map fun bs => SC.str (bs.map UInt8.toNat)
  | [] => rfl
  | x :: l => by
    have := flatE_str l
    simp only [List.map_cons, flatE] at this ⊢
    rw [this]; rfl
def RT : Value → Option (DataW Unit × List MemPlace) := fun _ => some (.nil, [])
theorem key_str (k : List UInt8) (h : k.length ≤ 1000) : Go.keyOf Try.prog 9 (encStr k) = some (.string k) := by
  have h2 : k.length ≤ maxLen := Nat.le_trans h (by decide)
  have h3 : (⟨k.toArray⟩ : ByteArray).size ≤ maxLen := by show k.toArray.size ≤ maxLen; simpa using h2
  simp [Go.keyOf, Try.underlying9, mapKey, encStr, h3]
theorem rgs : ∀ (l : List MapEntry) (ks : List (List UInt8)), l.map (·.key) = ks.map encStr → (∀ k ∈ ks, k.length ≤ 1000) → (∀ x ∈ l, ∃ y, WideElems.rd Try.prog 9 RT x = some y) ∧ l.map (WideElems.rg Try.prog 9 RT) = ks.map fun k => (Lit.string k, DataW.nil)
  | [], ks, h, _ => by
    cases ks with
    | nil => exact ⟨fun x hx => (by cases hx), rfl⟩
    | cons k ks => cases h
  | x :: l, ks, h, hk => by
    cases ks with
    | nil => cases h
    | cons k ks =>
      simp only [List.map_cons, List.cons.injEq] at h
      obtain ⟨h1, h2⟩ := rgs l ks h.2 fun k hk' => hk k (by simp [hk'])
      have h3 : WideElems.rd Try.prog 9 RT x = some (Lit.string k, DataW.nil) := by
        unfold WideElems.rd
        rw [h.1, key_str k (hk k (by simp))]
        rfl
      refine ⟨fun y hy => ?_, ?_⟩
      · rcases List.mem_cons.1 hy with rfl | hy
        · exact ⟨_, h3⟩
        · exact h1 y hy
      · simp only [List.map_cons, h2, WideElems.rg_of h3]
structure NOK (F : FS) : Prop where
  nd : (F.map (fun e => e.2.1)).Nodup
  len : ∀ e ∈ F, e.2.1.length ≤ 1000
  sz : F.length ≤ 1000000
theorem names_spec (h : HS) (room : Int) (bl : Nat) (x : XC) (F : FS) (c : Nat) (hrow : h.get 0 = some (.row [.p (.int .i64 room), .mp bl, .mp 2, x] true)) (hmap : h.get 2 = some (fM F c)) (hF : FOK F c) (hN : NOK F) : CallS Try.prog base 34 [.c (.ptr 0 0)] h (.c (.p (.tz true 1 (KS F) none))) h := by
  refine ⟨⟨Try.f34, Try.func34, by kernel_rfl, noNG _ _ Try.func34⟩, fun φ args' w ha hr => ?_⟩
  obtain ⟨v0, rfl, hv0⟩ := all2_one ha
  have hv0' : CR φ (.ptr 0 0) v0 := hv0
  obtain ⟨L, hL, rfl⟩ := hv0'
  obtain ⟨L', hL', hlen, cs, E, fr, hheap, hcells, hown⟩ := hr.live 0 _ (get_row hrow)
  rw [hL] at hL'; cases hL'
  obtain ⟨v2, hv2, hc2⟩ := hcells 2 (XC.mp 2).sc rfl
  have hc2' : CR φ (.mp (some 2)) v2 := hc2
  obtain ⟨L2, hL2, rfl⟩ := hc2'
  have hg2 : h.sh.get 2 = some (XO.map (mK KD.str (pv F)) c).so := by rw [HS.get_sh, hmap]; show some (XO.pm _ _).so = _; rw [pm_so, up_pK]
  obtain ⟨L2', hL2', hb2, vs, hheap2, hall⟩ := hr.live 2 _ hg2
  rw [hL2] at hL2'; cases hL2'
  obtain ⟨e1, ks, e2, e3⟩ := ents_of F vs.toList hall
  have hks : ks = F.map fun e => kb e.2.1 := by
    have := congrArg (List.map kb) e3
    rw [List.map_map, List.map_map] at this
    have hid : ks.map (kb ∘ fun k => k.map UInt8.toNat) = ks := by
      conv => rhs; rw [← List.map_id ks]
      exact List.map_congr_left fun k _ => kb_of k
    rw [hid] at this
    exact this
  have hvl : vs.toList.length = F.length := by have := congrArg List.length e1; simpa using this
  have hkn : ks.Nodup := by
    have h1 := hN.nd
    rw [← e3] at h1
    exact (List.pairwise_map.1 h1).imp fun hne e => hne (by rw [e])
  have hkl : ∀ k ∈ ks, k.length ≤ 1000 := fun k hk => by
    rw [hks, List.mem_map] at hk
    obtain ⟨e, he, rfl⟩ := hk
    have := hN.len e he
    simpa [kb] using this
  obtain ⟨q1, q2⟩ := rgs vs.toList ks e2 hkl
  have hfit : WideElems.Fit Try.prog 9 RT vs c := by
    refine ⟨?_, ⟨?_, ?_, ?_⟩, q1⟩
    · rw [← Array.length_toList, hvl]; exact Nat.le_trans hN.sz (by decide)
    · intro y hy
      have h1 : y.born ∈ vs.toList.map (·.born) := List.mem_map.2 ⟨y, hy, rfl⟩
      rw [e1, List.mem_map] at h1
      obtain ⟨e, he, hee⟩ := h1
      rw [← hee]; exact hF.old e he
    · rw [e1]; exact hF.nd
    · rw [e2]; exact List.pairwise_map.2 (hkn.imp fun hne e => hne (encStr_inj e))
  obtain ⟨D0, hD0⟩ : ∃ D0 : DataW Unit, D0 = .map ((vs.toList.map (WideElems.rg Try.prog 9 RT)).foldr DataW.insert []) := ⟨_, rfl⟩
  have hsp := WideShapes.sorted_perm (vs.toList.map (WideElems.rg Try.prog 9 RT))
  have hown2 : w.ownsMap Try.prog 9 RT L2.m vs.size D0 := ⟨vs, c, hheap2, hfit, Nat.le_refl _, hD0⟩
  have hsz : Maps.size D0 = F.length := by
    rw [hD0]
    show List.length _ = _
    rw [hsp.length_eq, List.length_map, hvl]
  have hsk : (strKeys D0).Perm ks := by
    rw [hD0]
    have h1 := hsp.map fun p => strOf p.1
    rw [q2, List.map_map] at h1
    have hid : ks.map ((fun p : Lit × DataW Unit => strOf p.1) ∘ fun k => (Lit.string k, DataW.nil)) = ks := by
      conv => rhs; rw [← List.map_id ks]
      exact List.map_congr_left fun k _ => rfl
    rw [hid] at h1
    rw [q2]
    exact h1
  have hcell : w.cell? ⟨L.m, L.m0 + 0 + 2, none⟩ = some (.map (some L2.m)) := by
    have : w.heap[L.m]? = some (.cells cs E fr) := hheap
    simp [World.cell?, this, hv2]
  refine Calls.mono (names_calls w L.m (L.m0 + 0) L2.m vs.size D0 RT hcell hown2 (by rw [hsz]; exact Nat.le_trans hN.sz (by decide)) (by rw [hsz]; have := hN.sz; omega)) fun en w' hp => ?_
  obtain ⟨v, ss, rfl, hS, hrow2, hnil, hb⟩ := hp
  have hss : ss.mergeSort (fun x y => decide (x ≤ y)) = (F.map fun e => kb e.2.1).mergeSort (fun x y => decide (x ≤ y)) := by
    rw [← hks]; exact mergeSort_of_perm (hS.trans hsk)
  rw [hss] at hrow2
  obtain ⟨M, hM⟩ : ∃ M, M = (F.map fun e => kb e.2.1).mergeSort (fun x y => decide (x ≤ y)) := ⟨_, rfl⟩
  have hKS : KS F = M.map fun bs => PC.str (bs.map UInt8.toNat) := by rw [KS, hM]
  have hMl : M.length = F.length := by rw [hM]; simp
  have hsl : ss.length = F.length := by rw [(hS.trans hsk).length_eq, hks]; simp
  rw [← hM] at hrow2
  rw [hKS]
  by_cases h0 : ss = []
  · have hv := hnil.2 h0
    have hM0 : M = [] := List.eq_nil_of_length_eq_zero (by rw [hMl, ← hsl, h0]; rfl)
    obtain ⟨g1, g2⟩ := HR.below hr hb h.next
    exact ⟨v, φ, rfl, by rw [hM0, hv]; exact (rfl : CR φ .nils (.slice none 0 0)), g1, g2⟩
  · rcases hrow2 with ⟨_, ⟨hv, _⟩ | ⟨g, cap, cur, hv, hbg, hg, hnc, hcm, hcs, htk⟩⟩
    · exact absurd (hnil.1 hv) h0
    · obtain ⟨ψ, hψ⟩ : ∃ ψ : Ph, ψ = ⟨φ.f, fun m => if m = g then some (.cells cur 9 (0, 0)) else φ.fm m⟩ := ⟨_, rfl⟩
      obtain ⟨g1, g2, g3⟩ := HR.row2 hr hb hbg hg ψ hψ h.next
      have hne : M ≠ [] := by intro e; rw [e] at hMl; exact h0 (List.eq_nil_of_length_eq_zero (by rw [hsl, ← hMl]; rfl))
      refine ⟨v, ψ, rfl, ?_, g1, g3⟩
      have hz : (true && (M.map fun bs => PC.str (bs.map UInt8.toNat)).isEmpty) = false := by cases M <;> simp_all
      show CR ψ (PC.tz true 1 (M.map fun bs => PC.str (bs.map UInt8.toNat)) none).sc v
      simp only [PC.sc, hz, cond_false]
      refine ⟨by simp [flatE_len], ⟨g, 0, none⟩, cap, ?_, ?_, ?_, ?_, ?_⟩
      · rw [hv, hsl, List.length_map, hMl]
      · rw [List.length_map, hMl, ← hsl]; exact hnc
      · exact hcm
      · intro c' hc'; cases hc'
      refine CRs.mk fun j x hx => ?_
      rw [flatE_str, List.getElem?_map, Option.map_eq_some_iff] at hx
      obtain ⟨bs, hbs, rfl⟩ := hx
      refine ⟨encStr bs, ?_, str_at bs ψ⟩
      have hj := (List.getElem?_eq_some_iff.1 hbs).1
      have h1 : (cur.toList.take (ss.length * 1))[j]? = some (encStr bs) := by rw [htk, List.getElem?_map, hbs]; rfl
      rw [List.getElem?_take] at h1
      split at h1
      · rw [hψ]
        have h2 : cur[j]? = some (encStr bs) := by simpa using h1
        have hadd : (⟨g, 0, none⟩ : Addr).add (0 + j) = ⟨g, j, none⟩ := by
          simp only [Addr.add, Nat.zero_add]
          split <;> simp_all
        rw [hadd]
        simp [Ph.cell, h2]
      · cases h1
end Go.Proofs.Ytjlfojgacnphmaa

namespace Go.Proofs.Ytjlfojgacnphmaa
open Go.RowKit Sim Go Sym
set_option maxRecDepth 100000
set_option linter.unusedVariables false
set_option linter.unusedSimpArgs false
variable {base : Nat}
theorem apF_ne {z : Bool} {old new : List Int} (h : new ≠ []) : apF z old new = fP false (old ++ new) none := if_neg h
def f1 (name : List Nat) (f : PC) : FS := [(0, name, f)]
theorem f1_ok (name : List Nat) (z : Bool) (bs : List Int) (cp : Option Nat) : FOK (f1 name (fP z bs cp)) 1 := ⟨fun e he => by simp [f1] at he; subst he; simp, by simp [f1], fun e he => by simp [f1] at he; subst he; exact ⟨z, bs, cp, rfl⟩⟩
theorem f0_ok (c : Nat) : FOK [] c := ⟨fun e he => (by cases he), (by simp), fun e he => (by cases he)⟩
theorem do_first (name to : List Nat) (n : Int) (zb : Bool) (b : List Int) (cb : Option Nat) (hb : b.length ≤ 100000000) (h0 : b ≠ []) : CallS Try.prog base 66 [.c (.mp 0), .agg ((chX 0 name to (fP zb b cb) n).map XC.p), .c (.p (.int .i64 b.length))] ⟨[(0, some (fM [] 0))], 1⟩ (.tup []) ⟨[(0, some (fM (f1 name (fP false b none)) 1))], 1⟩ := by
  have := do_app0 (base := base) [] 0 name to n rfl zb b cb b.length (Nat.le_refl _) hb
  rw [List.take_length, apF_ne h0] at this
  exact this
theorem may_a : CallS Try.prog base 70 [.c (.p (.str [97]))] ⟨[], 0⟩ (.c (.p (.bool true))) ⟨[], 0⟩ := CallS.reck (m := 200) (h' := noMem) mixed noNG (by kernel_rfl)
noncomputable def lBg3 : {F : LF // lowerF Try.prog 32 = some F} := ⟨_, rfl⟩
theorem begun3_spec : CallS Try.prog base 32 [] ⟨[], 0⟩ (.c (.p (.bool true))) ⟨[], 0⟩ := by
  refine CallS.of noNG lBg3.2 rfl (M.start (M.go rfl ?_))
  refine M.use trivial (dnew_spec 100) [] rfl rfl rfl trivial rfl rfl ?_
  refine M.go rfl ?_
  refine M.op trivial (SOp.cvO rfl rfl (by decide)) ?_
  refine M.freezeO (i := 11) rfl rfl rfl ?_
  refine M.use trivial (append0_spec (roomI 100) [] 0 [] 0 [97] false [120, 121, 122] (some 3) may_a (f0_ok 0) (by decide) (by decide) (.inr (by decide)) _ _ (do_first [97] [] 0 false [120, 121, 122] none (by decide) (by decide))) [(0, 0), (1, 1), (2, 2)] rfl rfl rfl (by repeat' (first | exact True.intro | refine ⟨⟨_, _, _, rfl, rfl, rfl, WkO.rfl⟩, ?_⟩ | refine HeapOK.acc rfl rfl ?_ | refine HeapOK.es rfl rfl ?_)) rfl rfl ?_
  refine M.go rfl ?_
  have hcr : CrR 0 2 [⟨0, [97], [], false, [120, 121, 122], none, 0⟩] 0 ([], 0) (f1 [97] (fP false [120, 121] none), 1) := by
    refine ⟨_, ?_, rfl⟩
    rw [Cr1, if_neg (by decide), if_pos (by decide)]
    have := Do.new (x := ⟨0, [97], [], false, [120, 121, 122], none, 0⟩) (k := 2) (F := []) (c := 0) rfl (by decide) (by decide) rfl
    rw [apF_ne (by decide)] at this
    exact this
  refine M.use trivial (crash1_spec (roomI 100) [] 0 (f1 [97] (fP false [120, 121, 122] none)) 1 _ _ [⟨0, [97], [], false, [120, 121, 122], none, 0⟩] rfl (by decide) 0 2 _ hcr) [(0, 0), (1, 1), (2, 2), (3, 4)] rfl rfl rfl (by repeat' (first | exact True.intro | refine ⟨⟨_, _, _, rfl, rfl, rfl, WkO.rfl⟩, ?_⟩ | refine HeapOK.acc rfl rfl ?_ | refine HeapOK.es rfl rfl ?_)) rfl rfl ?_
  refine M.go rfl ?_
  refine M.use trivial (read0_spec (roomI 100) (f1 [97] (fP false [120, 121] none)) 1 (f1 [97] (fP false [120, 121] none)) 1 [97] false [120, 121] none rfl (by decide)) [(0, 5), (1, 6), (2, 7)] rfl rfl rfl (by repeat' (first | exact True.intro | refine ⟨⟨_, _, _, rfl, rfl, rfl, WkO.rfl⟩, ?_⟩ | refine HeapOK.acc rfl rfl ?_ | refine HeapOK.es rfl rfl ?_)) rfl rfl ?_
  refine M.go rfl ?_
  refine M.dec rfl (fun _ => ?_) (fun hn => absurd (by decide) hn)
  refine M.go rfl ?_
  refine M.op (by first | exact True.intro | exact rfl) (SOp.cvBS (l := [120, 121]) rfl rfl) ?_
  refine M.go rfl ?_
  refine M.decB rfl (fun _ => ?_) (fun hn => by cases hn)
  refine M.go rfl ?_
  refine M.use (by first | exact True.intro | exact rfl) (used1_spec (roomI 100) [] 0 (f1 [97] (fP false [120, 121, 122] none)) 1 _ _ (f1_ok _ _ _ _) (by decide)) [(0, 0), (1, 1), (2, 2), (3, 4)] rfl rfl rfl (by repeat' (first | exact True.intro | refine ⟨⟨_, _, _, rfl, rfl, rfl, WkO.rfl⟩, ?_⟩ | refine HeapOK.acc rfl rfl ?_ | refine HeapOK.es rfl rfl ?_)) rfl rfl ?_
  refine M.go rfl ?_
  refine M.dec rfl (fun _ => ?_) (fun hn => absurd (by decide) hn)
  refine M.go rfl ?_
  refine M.use (by first | exact True.intro | exact rfl) (waiting1_spec (roomI 100) [] 0 (f1 [97] (fP false [120, 121, 122] none)) 1 _ _) [(0, 0), (1, 1), (2, 2), (3, 4)] rfl rfl rfl (by repeat' (first | exact True.intro | refine ⟨⟨_, _, _, rfl, rfl, rfl, WkO.rfl⟩, ?_⟩ | refine HeapOK.acc rfl rfl ?_ | refine HeapOK.es rfl rfl ?_)) rfl rfl ?_
  refine M.go rfl ?_
  refine M.dec rfl (fun _ => ?_) (fun hn => absurd (by decide) hn)
  refine M.go rfl ?_
  refine M.use (by first | exact True.intro | exact rfl) (remove1_none (roomI 100) [] 0 (f1 [97] (fP false [120, 121, 122] none)) 1 _ _ [98] rfl) [(0, 0), (1, 1), (2, 2), (3, 4)] rfl rfl rfl (by repeat' (first | exact True.intro | refine ⟨⟨_, _, _, rfl, rfl, rfl, WkO.rfl⟩, ?_⟩ | refine HeapOK.acc rfl rfl ?_ | refine HeapOK.es rfl rfl ?_)) rfl rfl ?_
  refine M.go rfl ?_
  refine M.dec rfl (fun _ => ?_) (fun hn => absurd (by decide) hn)
  refine M.go rfl ?_
  refine M.use (by first | exact True.intro | exact rfl) (names_spec (hD1 3 (roomI 100) [] 0 (f1 [97] (fP false [120, 121, 122] none)) 1 _ _) (roomI 100) 1 _ (f1 [97] (fP false [120, 121, 122] none)) 1 rfl rfl (f1_ok _ _ _ _) ⟨by simp [f1], fun e he => by simp [f1] at he; subst he; simp, by simp [f1]⟩) [(0, 0), (1, 1), (2, 2), (3, 4)] rfl rfl rfl (by repeat' (first | exact True.intro | refine ⟨⟨_, _, _, rfl, rfl, rfl, WkO.rfl⟩, ?_⟩ | refine HeapOK.acc rfl rfl ?_ | refine HeapOK.es rfl rfl ?_)) rfl rfl ?_
  refine M.go rfl ?_
  refine M.decC (s := 0) rfl (fun _ => ?_) (fun hn => absurd hn (by rw [KS_len]; decide))
  exact M.ret (M.go rfl (M.done (finQ.ret [] rfl rfl rfl (by first | exact Wk.rfl | exact Wk.uncap | exact Wk.nil | exact Wk.b1 rfl | exact Wk.t2 Wk.rfl (Wk.b1 rfl)) (by repeat' (first | exact True.intro | refine ⟨⟨_, _, _, rfl, rfl, rfl, WkO.rfl⟩, ?_⟩ | refine HeapOK.acc rfl rfl ?_ | refine HeapOK.es rfl rfl ?_)))))
end Go.Proofs.Ytjlfojgacnphmaa

namespace Go.Proofs.Ytjlfojgacnphmaa
open Go.RowKit Sim Go Sym
set_option maxRecDepth 100000
set_option linter.unusedVariables false
set_option linter.unusedSimpArgs false
variable {base : Nat}
theorem sync_nil : CallS Try.prog base 35 [.c (.p .nilp)] ⟨[], 0⟩ (.tup []) ⟨[], 0⟩ := by
  refine CallS.of noNG lSync.2 rfl (M.start (M.go rfl ?_))
  exact M.done (finQ.normal [] rfl rfl rfl Wk.rfl trivial)
noncomputable def lDRo : {F : LF // lowerF Try.prog 38 = some F} := ⟨_, rfl⟩
theorem room_nil : CallS Try.prog base 38 [.c (.p .nilp), .c (.p (.int .i64 5))] ⟨[], 0⟩ (.tup []) ⟨[], 0⟩ := by
  refine CallS.of noNG lDRo.2 rfl (M.start (M.go rfl ?_))
  exact M.done (finQ.normal [] rfl rfl rfl Wk.rfl trivial)
theorem read_nil : CallS Try.prog base 36 [.c (.p .nilp), .c (.p (.str [97]))] ⟨[], 0⟩ (.tup [.c (.p (.tz true 0 [] none)), .c (.p (.bool false))]) ⟨[], 0⟩ := by
  refine CallS.of noNG lDRd.2 rfl (M.start (M.go rfl ?_))
  exact M.ret (M.go rfl (M.done (finQ.ret [] rfl rfl rfl (Wk.of rfl) (by repeat' (first | exact True.intro | refine ⟨⟨_, _, _, rfl, rfl, rfl, WkO.rfl⟩, ?_⟩ | refine HeapOK.acc rfl rfl ?_ | refine HeapOK.es rfl rfl ?_)))))
theorem append_nil3 : CallS Try.prog base 33 [.c (.p .nilp), .c (.p (.str [97])), .c (.p (.tz true 0 [] none))] ⟨[], 0⟩ (.c (.p (.int .i64 1))) ⟨[], 0⟩ := CallS.reck (m := 200) (h' := noMem) mixed noNG (by kernel_rfl)
theorem cut_nil3 : CallS Try.prog base 39 [.c (.p .nilp), .c (.p (.str [97])), .c (.p (.int .i64 0))] ⟨[], 0⟩ (.c (.p (.int .i64 1))) ⟨[], 0⟩ := CallS.reck (m := 200) (h' := noMem) mixed noNG (by kernel_rfl)
theorem remove_nil3 : CallS Try.prog base 40 [.c (.p .nilp), .c (.p (.str [97]))] ⟨[], 0⟩ (.c (.p (.int .i64 1))) ⟨[], 0⟩ := CallS.reck (m := 200) (h' := noMem) mixed noNG (by kernel_rfl)
theorem move_nil3 : CallS Try.prog base 37 [.c (.p .nilp), .c (.p (.str [97])), .c (.p (.str [98]))] ⟨[], 0⟩ (.c (.p (.int .i64 1))) ⟨[], 0⟩ := CallS.reck (m := 200) (h' := noMem) mixed noNG (by kernel_rfl)
theorem names_nil3 : CallS Try.prog base 34 [.c (.p .nilp)] ⟨[], 0⟩ (.c (.p (.tz true 0 [] none))) ⟨[], 0⟩ := CallS.reck (m := 200) (h' := noMem) mixed noNG (by kernel_rfl)
theorem used_nil3 : CallS Try.prog base 41 [.c (.p .nilp)] ⟨[], 0⟩ (.c (.p (.int .i64 0))) ⟨[], 0⟩ := CallS.reck (m := 200) (h' := noMem) mixed noNG (by kernel_rfl)
theorem waiting_nil3 : CallS Try.prog base 42 [.c (.p .nilp)] ⟨[], 0⟩ (.c (.p (.int .i64 0))) ⟨[], 0⟩ := CallS.reck (m := 200) (h' := noMem) mixed noNG (by kernel_rfl)
theorem crash_nil3 : CallS Try.prog base 23 [.c (.p .nilp), .c (.p (.int .i64 0)), .c (.p (.int .i64 0))] ⟨[], 0⟩ (.c (.p .nilp)) ⟨[], 0⟩ := CallS.reck (m := 200) (h' := noMem) mixed noNG (by kernel_rfl)
noncomputable def lDNo : {F : LF // lowerF Try.prog 12 = some F} := ⟨_, rfl⟩
theorem DiskNone_law : CallS Try.prog base 12 [] ⟨[], 0⟩ (.c (.p (.bool true))) ⟨[], 0⟩ := by
  refine CallS.of noNG lDNo.2 rfl (M.start (M.go rfl ?_))
  refine M.use0 trivial sync_nil rfl rfl rfl ?_
  refine M.go rfl ?_
  refine M.use0 trivial room_nil rfl rfl rfl ?_
  refine M.go rfl ?_
  refine M.use0 trivial read_nil rfl rfl rfl ?_
  refine M.go rfl ?_
  refine M.use0 trivial begun3_spec rfl rfl rfl ?_
  refine M.go rfl ?_
  refine M.use0 (by first | exact True.intro | exact rfl) append_nil3 rfl rfl rfl ?_
  refine M.go rfl ?_
  refine M.dec rfl (fun _ => ?_) (fun hn => absurd (by decide) hn)
  refine M.go rfl ?_
  refine M.use0 (by first | exact True.intro | exact rfl) cut_nil3 rfl rfl rfl ?_
  refine M.go rfl ?_
  refine M.dec rfl (fun _ => ?_) (fun hn => absurd (by decide) hn)
  refine M.go rfl ?_
  refine M.use0 (by first | exact True.intro | exact rfl) remove_nil3 rfl rfl rfl ?_
  refine M.go rfl ?_
  refine M.dec rfl (fun _ => ?_) (fun hn => absurd (by decide) hn)
  refine M.go rfl ?_
  refine M.use0 (by first | exact True.intro | exact rfl) move_nil3 rfl rfl rfl ?_
  refine M.go rfl ?_
  refine M.dec rfl (fun _ => ?_) (fun hn => absurd (by decide) hn)
  refine M.go rfl ?_
  refine M.use0 (by first | exact True.intro | exact rfl) names_nil3 rfl rfl rfl ?_
  refine M.go rfl ?_
  refine M.dec rfl (fun _ => ?_) (fun hn => absurd (by decide) hn)
  refine M.go rfl ?_
  refine M.use0 (by first | exact True.intro | exact rfl) used_nil3 rfl rfl rfl ?_
  refine M.go rfl ?_
  refine M.dec rfl (fun _ => ?_) (fun hn => absurd (by decide) hn)
  refine M.go rfl ?_
  refine M.use0 (by first | exact True.intro | exact rfl) waiting_nil3 rfl rfl rfl ?_
  refine M.go rfl ?_
  refine M.dec rfl (fun _ => ?_) (fun hn => absurd (by decide) hn)
  refine M.go rfl ?_
  refine M.use0 (by first | exact True.intro | exact rfl) crash_nil3 rfl rfl rfl ?_
  refine M.go rfl ?_
  exact M.ret (M.go rfl (M.done (finQ.ret [] rfl rfl rfl (by first | exact Wk.rfl | exact Wk.uncap | exact Wk.nil | exact Wk.b1 rfl | exact Wk.t2 Wk.rfl (Wk.b1 rfl)) (by repeat' (first | exact True.intro | refine ⟨⟨_, _, _, rfl, rfl, rfl, WkO.rfl⟩, ?_⟩ | refine HeapOK.acc rfl rfl ?_ | refine HeapOK.es rfl rfl ?_)))))
theorem diskNone_calls (w : World) : Calls Try.prog 12 #[] w fun e w' => e = .returned (.bool true) ∧ Below w.heap.size w w' := CallS.law DiskNone_law (args' := []) trivial
end Go.Proofs.Ytjlfojgacnphmaa

namespace Go.Proofs.Ytjlfojgacnphmaa
open Go.RowKit Sim Go Sym
set_option maxRecDepth 100000
set_option linter.unusedVariables false
set_option linter.unusedSimpArgs false
variable {base : Nat}
section
variable {P : Program} {n : Nat} {e : Env} {h : HS}
theorem SOp.mkS1 {s bytes k : Nat} {zs : List XC} {z : PC} {x y : LX} {i j : IntKind} (hx : xev e x = some (.c (.p (.int i (k : Int))))) (hy : xev e y = some (.c (.p (.int j (k : Int))))) (hz : zs.map XC.sc = z.flat) (hz2 : z.flat.length = s) (hb : k * bytes ≤ 140737488355328) :
    SOp P n (.mkS s bytes zs x y) e h (.c (.sl h.next 0 k s (some k))) (h.newO (.els s (List.replicate k z))) := ⟨fun o call hw => by
  generalize ho : o.op = op' at hw
  generalize hlk : LK.mkS s bytes zs x y = lk at hw
  cases hw <;> try (cases hlk; done)
  rename_i t l c l' c' e1 i1 z1 g1 g2 g3 g4 g5 g6 g7 g8
  simp only [LK.mkS.injEq] at hlk
  obtain ⟨rfl, rfl, rfl, rfl, rfl⟩ := hlk
  have g9 := zeroX_sc g5
  have hb2 : (k : Int) * (i1.bytes : Int) ≤ 140737488355328 := by rw [← Int.natCast_mul]; omega
  simp only [Sim.step, ho, xev_ev g1 hx, xev_ev g2 hy, XV.sv, XC.sc, PC.sc, sMake, g3, g4, g9, hz]
  rw [if_pos ⟨by omega, by omega, hb2, g6, hz2, g8⟩, Int.toNat_natCast, rep_flat i1.size z hz2]
  rfl⟩
end
def hCr0 (room : Int) (L : FS) (lc : Nat) (F : FS) (c : Nat) : HS := ⟨[(5, some (fM L lc)), (4, some (fM L lc)), (3, some (.row [.p (.int .i64 room), .mp 4, .mp 5, .p (.tz true 5 [] none)] true)), (2, some (fM F c)), (1, some (fM L lc)), (0, some (.row [.p (.int .i64 room), .mp 1, .mp 2, .p (.tz true 5 [] none)] true))], 6⟩
theorem crash0_spec (room : Int) (L : FS) (lc : Nat) (F : FS) (c : Nat) (n torn : Int) :
    CallS Try.prog base 23 [.c (.ptr 0 0), .c (.p (.int .i64 n)), .c (.p (.int .i64 torn))] (hD0 room L lc F c) (.c (.ptr 3 0)) (hCr0 room L lc F c) := by
  refine CallS.of noNG lCr.2 rfl (M.start (M.go rfl ?_))
  refine M.regF (MF.go rfl ?_)
  refine MF.use trivial (mclone_spec L lc) [(0, 1)] rfl rfl rfl (by repeat' (first | exact True.intro | refine ⟨⟨_, _, _, rfl, rfl, rfl, WkO.rfl⟩, ?_⟩ | refine HeapOK.acc rfl rfl ?_ | refine HeapOK.es rfl rfl ?_)) rfl rfl ?_
  refine MF.go rfl ?_
  refine MF.nil mixed (Fnl.nodup rfl) rfl ⟨⟨stepX_ok rfl, trivial⟩, trivial⟩ (M.go rfl ?_)
  refine M.loop (M.round (M.go rfl ?_))
  refine M.cond rfl (fun hn => absurd hn (by simp)) (fun _ => ?_)
  refine M.exit (M.go rfl (M.done (M.q (M.go rfl ?_))))
  refine M.use trivial (mclone_spec L lc) [(0, 3)] rfl rfl rfl (by repeat' (first | exact True.intro | refine ⟨⟨_, _, _, rfl, rfl, rfl, WkO.rfl⟩, ?_⟩ | refine HeapOK.acc rfl rfl ?_ | refine HeapOK.es rfl rfl ?_)) rfl rfl ?_
  refine M.go rfl ?_
  exact M.ret (M.go rfl (M.done (finQ.ret [(0, 0), (1, 1), (2, 2), (3, 4), (4, 3), (5, 5)] rfl rfl rfl (by first | exact Wk.rfl | exact Wk.uncap | exact Wk.nil | exact Wk.b1 rfl | exact Wk.t2 Wk.rfl (Wk.b1 rfl)) ⟨⟨_, _, _, rfl, rfl, rfl, WkO.rfl⟩, ⟨_, _, _, rfl, rfl, rfl, WkO.rfl⟩, ⟨_, _, _, rfl, rfl, rfl, WkO.row ⟨Wk.rfl, Wk.rfl, Wk.rfl, Wk.nil, trivial⟩⟩, ⟨_, _, _, rfl, rfl, rfl, WkO.rfl⟩, ⟨_, _, _, rfl, rfl, rfl, WkO.rfl⟩, ⟨_, _, _, rfl, rfl, rfl, WkO.rfl⟩, trivial⟩)))
def zs (k : Nat) : List Int := List.replicate k 0
theorem zs_len (k : Nat) : (zs k).length = k := by simp [zs]
theorem zs_add (a b : Nat) : zs a ++ zs b = zs (a + b) := by simp [zs]
theorem zs_take (k m : Nat) (h : m ≤ k) : (zs k).take m = zs m := by simp [zs, Nat.min_eq_left h]
theorem zs_P (k : Nat) : u8P (zs k) = List.replicate k (.int .u8 0) := by simp [u8P, zs]
def syn : List Int := [115, 121, 110, 99]
def nmF : List Nat := [102]
def tcg (k : Nat) : Chg := ⟨0, nmF, [], false, zs k, none, 0⟩
def tF (m : Nat) (cp : Option Nat) : FS := f1 nmF (fP false (syn ++ zs m) cp)
def cpN (m k : Nat) (cp : Option Nat) : Option Nat := if k = 0 then some (4 + m) else none
theorem tF_ap (m k : Nat) : apF (false && (u8P (syn ++ zs m)).isEmpty) (syn ++ zs m) (zs k) = fP false (syn ++ zs (m + k)) (cpN m k none) := by
  cases k with
  | zero => rw [apF, if_pos (show zs 0 = [] from rfl), cpN, if_pos rfl]; simp [syn, zs, fP]; omega
  | succ k => rw [apF, if_neg (by simp [zs]), cpN, if_neg (by omega), List.append_assoc, zs_add]
theorem tF_do (m k j : Nat) (cp : Option Nat) (hk : k ≤ j) (hm : m ≤ 10000) (hj : j ≤ 10000) : Do (tcg j) k (tF m cp, 1) (tF (m + k) (cpN m k none), 1) := by
  have := Do.app (x := tcg j) (k := k) (F := tF m cp) (c := 1) (z := false) (old := syn ++ zs m) (oc := cp) rfl (by simp [tcg, zs_len, hk]) (by simp [tcg, zs_len]; omega) rfl (by simp [syn, zs_len]; omega)
  rw [show (tcg j).b.take k = zs k from zs_take j k hk, tF_ap] at this
  exact this
theorem may_f : CallS Try.prog base 70 [.c (.p (.str nmF))] ⟨[], 0⟩ (.c (.p (.bool true))) ⟨[], 0⟩ := CallS.reck (m := 200) (h' := noMem) mixed noNG (by kernel_rfl)
theorem tF_ok (m : Nat) (cp : Option Nat) : FOK (tF m cp) 1 := f1_ok _ _ _ _
theorem tF_used (m : Nat) (cp : Option Nat) : usedN (tF m cp) = 4 + m := by simp [usedN, tF, f1, lenP, fP, syn, zs, u8P]; omega
def mB : Int := roomI 1048576
theorem mB_eq : mB = 1048576 := by decide
def ctr (n torn : Int) (i k : Nat) : Nat := if (i : Int) < n then k else if (i : Int) = n ∧ 0 ≤ torn then min torn.toNat k else 0
def ctrs (n torn : Int) : Nat → List Nat → Nat
  | _, [] => 0
  | i, k :: l => ctr n torn i k + ctrs n torn (i + 1) l
theorem ctr_le (n torn : Int) (i k : Nat) : ctr n torn i k ≤ k := by
  unfold ctr
  split
  · omega
  · split <;> omega
theorem torn_cr (n torn : Int) : ∀ (l : List Nat) (i m : Nat) (cp : Option Nat), (∀ k ∈ l, k ≤ 49) → m + 49 * l.length ≤ 9000 → ∃ cp', CrR n torn (l.map tcg) i (tF m cp, 1) (tF (m + ctrs n torn i l) cp', 1)
  | [], i, m, cp, _, _ => ⟨cp, rfl⟩
  | k :: l, i, m, cp, hk, hm => by
    have h1 := hk k (by simp)
    have h2 := ctr_le n torn i k
    simp only [List.length_cons] at hm
    have step : ∃ cp1, Cr1 n torn (tcg k) i (tF m cp, 1) (tF (m + ctr n torn i k) cp1, 1) := by
      by_cases h3 : (i : Int) < n
      · refine ⟨cpN m k none, ?_⟩
        have := tF_do m k k cp (Nat.le_refl _) (by omega) (by omega)
        rw [Cr1, if_pos h3, ctr, if_pos h3, show (tcg k).b.length = k from zs_len k]
        exact this
      · by_cases h4 : (i : Int) = n ∧ 0 ≤ torn
        · refine ⟨cpN m (min torn.toNat k) none, ?_⟩
          have := tF_do m (min torn.toNat k) k cp (by omega) (by omega) (by omega)
          rw [Cr1, if_neg h3, ctr, if_neg h3, if_pos ⟨h4.1, h4.2, rfl⟩, if_pos h4, show (tcg k).b.length = k from zs_len k]
          exact this
        · refine ⟨cp, ?_⟩
          rw [Cr1, if_neg h3, ctr, if_neg h3, if_neg (fun h => h4 ⟨h.1, h.2.1⟩), if_neg h4]
          rfl
    obtain ⟨cp1, h3⟩ := step
    obtain ⟨cp2, h4⟩ := torn_cr n torn l (i + 1) (m + ctr n torn i k) cp1 (fun k hk' => hk k (by simp [hk'])) (by omega)
    refine ⟨cp2, _, h3, ?_⟩
    rw [Nat.add_assoc] at h4
    exact h4
end Go.Proofs.Ytjlfojgacnphmaa

namespace Go.Proofs.Ytjlfojgacnphmaa
open Go.RowKit Sim Go Sym
set_option maxRecDepth 100000
set_option linter.unusedVariables false
set_option linter.unusedSimpArgs false
variable {base : Nat}
theorem SOp.remK {P : Program} {n : Nat} {e : Env} {h : HS} {nk : NK} {x y : LX} {i : IntKind} {a b : Int} (hx : xev e x = some (.c (.p (.int i a)))) (hy : xev e y = some (.c (.p (.int i b)))) (h0 : b ≠ 0) : SOp P n (.bin nk .rem x y) e h (.c (.p (.int i (a.tmod b)))) h :=
  SOp.bin hx hy (by simp only [binX, if_true, intX]; rw [if_neg h0])
def kz (t : Int) : Nat := (t.tmod 50).natAbs
theorem kz_le (t : Int) : kz t ≤ 49 ∧ -50 < t.tmod 50 ∧ t.tmod 50 < 50 := by
  have h1 : (t.tmod 50).natAbs = t.natAbs % 50 := by simp [Int.natAbs_tmod]
  have h2 : t.natAbs % 50 < 50 := Nat.mod_lt _ (by omega)
  unfold kz
  omega
theorem ctrs_app (n torn : Int) : ∀ (l : List Nat) (i k : Nat), ctrs n torn i (l ++ [k]) = ctrs n torn i l + ctr n torn (i + l.length) k
  | [], i, k => by simp [ctrs]
  | x :: l, i, k => by
    have := ctrs_app n torn l (i + 1) k
    simp only [List.cons_append, ctrs, this, List.length_cons]
    rw [show i + 1 + l.length = i + (l.length + 1) by omega]; omega
theorem ctrs_le (n torn : Int) : ∀ (l : List Nat) (i : Nat), (∀ k ∈ l, k ≤ 49) → ctrs n torn i l ≤ 49 * l.length
  | [], _, _ => Nat.le_refl _
  | k :: l, i, h => by
    have h1 := ctr_le n torn i k
    have h2 := h k (by simp)
    have h3 := ctrs_le n torn l (i + 1) fun k hk => h k (by simp [hk])
    simp only [ctrs, List.length_cons]; omega
theorem tF_hdo (m k : Nat) (cp : Option Nat) (hm : m ≤ 10000) (hk : k ≤ 10000) : CallS Try.prog base 66 [.c (.mp 0), .agg ((chX 0 nmF [] (fP false (zs k) none) 0).map XC.p), .c (.p (.int .i64 (zs k).length))] ⟨[(0, some (fM (tF m cp) 1))], 1⟩ (.tup []) ⟨[(0, some (fM (tF (m + k) (cpN m k none)) 1))], 1⟩ := by
  have := (tF_do m k k cp (Nat.le_refl _) hm hk).spec (base := base)
  rw [zs_len]
  exact this
theorem tap1 (m k : Nat) (cp : Option Nat) (w : PC) (W : List PC) (hm : m ≤ 2000) (hk : k ≤ 49) (hW : W.length ≤ 1000) : CallS Try.prog base 33 [.c (.ptr 0 0), .c (.p (.str nmF)), .c (.p (.tz false 1 (u8P (zs k)) (some k)))] (hD1 3 mB (tF 0 none) 1 (tF m cp) 1 w W) (.c (.p (.int .i64 0))) (hD1 4 mB (tF 0 none) 1 (tF (m + k) (cpN m k none)) 1 w (W ++ [(tcg k).pc])) :=
  append1_spec mB (tF 0 none) 1 (tF m cp) 1 w W (by omega) nmF false (zs k) (some k) may_f (tF_ok _ _) (by rw [mB_eq]; decide) (by rw [tF_used, zs_len, mB_eq]; omega) (.inl rfl) _ _ (tF_hdo m k cp (by omega) (by omega))
theorem tap0 (m k : Nat) (cp : Option Nat) (hm : m ≤ 2000) (hk : k ≤ 49) : CallS Try.prog base 33 [.c (.ptr 0 0), .c (.p (.str nmF)), .c (.p (.tz false 1 (u8P (zs k)) (some k)))] (hD0 mB (tF 0 none) 1 (tF m cp) 1) (.c (.p (.int .i64 0))) (hD1 3 mB (tF 0 none) 1 (tF (m + k) (cpN m k none)) 1 (tcg k).pc []) :=
  append0_spec mB (tF 0 none) 1 (tF m cp) 1 nmF false (zs k) (some k) may_f (tF_ok _ _) (by rw [mB_eq]; decide) (by rw [tF_used, zs_len, mB_eq]; omega) (.inl rfl) _ _ (tF_hdo m k cp (by omega) (by omega))
noncomputable def lTo : {F : LF // lowerF Try.prog 10 = some F} := ⟨_, rfl⟩
def toE (z : Bool) (T : List Int) (ct : Option Nat) (n torn : Int) (S j : Nat) : Env := [(0, .c (.p (.tz z 1 (inP T) ct))), (1, .c (.p (.int .i64 n))), (2, .c (.p (.int .i64 torn))), (8, .c (.ptr 0 0)), (9, .c (.p (.int .i64 ((4 + S : Nat) : Int)))), (10, .c (.p (.int .i64 j)))]
def toX (n torn : Int) (S : Nat) : Env := [(1, .c (.p (.int .i64 n))), (2, .c (.p (.int .i64 torn))), (8, .c (.ptr 0 0)), (9, .c (.p (.int .i64 ((4 + S : Nat) : Int))))]
def pcs (l : List Nat) : List PC := l.map fun k => (tcg k).pc
def ksT (T : List Int) : List Nat := (T.take 20).map kz
theorem ksT_le (T : List Int) : ∀ k ∈ ksT T, k ≤ 49 := fun k hk => by
  simp only [ksT, List.mem_map] at hk
  obtain ⟨t, _, rfl⟩ := hk
  exact (kz_le t).1
theorem ksT_at {T : List Int} {pre rest : List Nat} {k : Nat} (h : ksT T = pre ++ k :: rest) : ∃ t, (inP T)[pre.length]? = some (.int .i64 t) ∧ k = kz t ∧ pre.length < T.length ∧ pre.length < 20 := by
  have h1 : (ksT T)[pre.length]? = some k := by rw [h]; simp
  simp only [ksT, List.getElem?_map, Option.map_eq_some_iff] at h1
  obtain ⟨t, h2, h3⟩ := h1
  rw [List.getElem?_take] at h2
  split at h2
  · rename_i h4
    exact ⟨t, by simp [inP, h2], h3.symm, (List.getElem?_eq_some_iff.1 h2).1, h4⟩
  · cases h2
theorem ksT_len (T : List Int) : (ksT T).length = min 20 T.length := by simp [ksT]
theorem torn_loop (z : Bool) (T : List Int) (ct : Option Nat) (n torn : Int) (Q : QX) (hq : ∀ k0 pr cp, ksT T = k0 :: pr → Q (.exit 0) (toX n torn (ctrs n torn 0 (ksT T))) (hD1 3 mB (tF 0 none) 1 (tF (ksT T).sum cp) 1 (tcg k0).pc (pcs pr))) :
    ∀ (rest : List Nat) (k0 : Nat) (pr : List Nat) (cp : Option Nat), ksT T = (k0 :: pr) ++ rest → XH Try.prog base lTo.1.n 0 (lTo.1.c.lp 0) (toE z T ct n torn (ctrs n torn 0 (k0 :: pr)) (k0 :: pr).length) (hD1 3 mB (tF 0 none) 1 (tF (k0 :: pr).sum cp) 1 (tcg k0).pc (pcs pr)) Q := by
  have hTl : (inP T).length = T.length := by simp [inP]
  have hkl := ksT_len T
  intro rest
  induction rest with
  | nil =>
    intro k0 pr cp hp
    rw [List.append_nil] at hp
    have hq' := hq k0 pr cp hp
    rw [hp] at hq'
    have hpl : (k0 :: pr).length = min 20 T.length := by rw [← hp, hkl]
    refine M.round (M.go rfl ?_)
    refine M.dec rfl (fun h1 => ?_) (fun h1 => ?_)
    · refine M.go rfl ?_
      refine M.cond rfl (fun h2 => absurd h2 (by rw [hTl] at h1; omega)) (fun h2 => ?_)
      refine M.ren [(0, 0), (1, 1), (2, 2), (3, 3)] ?_ trivial rfl (by repeat' (first | exact True.intro | refine ⟨⟨_, _, rfl, rfl, Wk.rfl⟩, ?_⟩ | refine ⟨⟨_, _, accV_ren rfl, rfl, Wk.rfl⟩, ?_⟩ | refine ⟨⟨_, _, accV_ren rfl, rfl, Wk.acc0⟩, ?_⟩ | refine ⟨⟨_, _, rfl, rfl, Wk.uncap⟩, ?_⟩ | refine ⟨⟨_, _, rfl, rfl, Wk.nil⟩, ?_⟩)) (by repeat' (first | exact True.intro | refine ⟨⟨_, _, _, rfl, rfl, rfl, WkO.rfl⟩, ?_⟩ | refine HeapOK.acc rfl rfl ?_ | refine HeapOK.es rfl rfl ?_)) (e' := toX n torn (ctrs n torn 0 (k0 :: pr))) (h' := hD1 3 mB (tF 0 none) 1 (tF (k0 :: pr).sum cp) 1 (tcg k0).pc (pcs pr))
      exact M.exit (M.go rfl (M.done hq'))
    · refine M.go rfl ?_
      refine M.ren [(0, 0), (1, 1), (2, 2), (3, 3)] ?_ trivial rfl (by repeat' (first | exact True.intro | refine ⟨⟨_, _, rfl, rfl, Wk.rfl⟩, ?_⟩ | refine ⟨⟨_, _, accV_ren rfl, rfl, Wk.rfl⟩, ?_⟩ | refine ⟨⟨_, _, accV_ren rfl, rfl, Wk.acc0⟩, ?_⟩ | refine ⟨⟨_, _, rfl, rfl, Wk.uncap⟩, ?_⟩ | refine ⟨⟨_, _, rfl, rfl, Wk.nil⟩, ?_⟩)) (by repeat' (first | exact True.intro | refine ⟨⟨_, _, _, rfl, rfl, rfl, WkO.rfl⟩, ?_⟩ | refine HeapOK.acc rfl rfl ?_ | refine HeapOK.es rfl rfl ?_)) (e' := toX n torn (ctrs n torn 0 (k0 :: pr))) (h' := hD1 3 mB (tF 0 none) 1 (tF (k0 :: pr).sum cp) 1 (tcg k0).pc (pcs pr))
      exact M.exit (M.go rfl (M.done hq'))
  | cons k rest ih =>
    intro k0 pr cp hp
    obtain ⟨t, hu, hk, hlt, h20⟩ := ksT_at hp
    have hk49 := kz_le t
    have hsum : ∀ l : List Nat, (∀ k ∈ l, k ≤ 49) → l.sum ≤ 49 * l.length := fun l hl => by
      induction l with
      | nil => simp
      | cons a l ih => have := hl a (by simp); have := ih fun k hk => hl k (by simp [hk]); simp only [List.sum_cons, List.length_cons]; omega
    have hpre : ∀ k ∈ k0 :: pr, k ≤ 49 := fun k hk => ksT_le T k (by rw [hp]; exact List.mem_append_left _ hk)
    have hs := hsum _ hpre
    have hc := ctrs_le n torn (k0 :: pr) 0 hpre
    have hck := ctr_le n torn (k0 :: pr).length k
    have hca := ctrs_app n torn (k0 :: pr) 0 k
    rw [Nat.zero_add] at hca
    obtain ⟨m, hm⟩ : ∃ m, m = (k0 :: pr).sum := ⟨_, rfl⟩
    obtain ⟨S, hS⟩ : ∃ S, S = ctrs n torn 0 (k0 :: pr) := ⟨_, rfl⟩
    obtain ⟨j, hj⟩ : ∃ j, j = (k0 :: pr).length := ⟨_, rfl⟩
    have ih' := ih k0 (pr ++ [k]) (cpN m k none) (by rw [hp]; simp)
    rw [show k0 :: (pr ++ [k]) = (k0 :: pr) ++ [k] from rfl, hca, List.sum_append, List.length_append, ← hm, ← hS, ← hj, show ([k] : List Nat).sum = k by simp, show ([k] : List Nat).length = 1 from rfl, show pcs (pr ++ [k]) = pcs pr ++ [(tcg k).pc] by simp [pcs]] at ih'
    have h20' : j < 20 := by rw [hj]; exact h20
    have A := tap1 (base := base) m k cp (tcg k0).pc (pcs pr) (by omega) (by omega) (by simp only [pcs, List.length_map]; simp only [List.length_cons] at hj; omega)
    have hw2 : IntKind.i64.wrap ((j : Int) + 1) = ((j + 1 : Nat) : Int) := by rw [wr64 (by omega) (by omega)]; omega
    rw [← hj] at hu hck
    rw [← hm, ← hS, ← hj]
    have hu' : (inP T)[((j : Int)).toNat]? = some (.int .i64 t) := by rw [show ((j : Int)).toNat = j by omega]; exact hu
    refine M.round (M.go rfl ?_)
    refine M.dec rfl (fun h1 => ?_) (fun h1 => absurd (by rw [hTl]; omega) h1)
    refine M.go rfl ?_
    refine M.cond rfl (fun _ => ?_) (fun h2 => absurd (by omega) h2)
    refine M.go rfl ?_
    refine M.op trivial (SOp.ia rfl rfl (by omega) hu') ?_
    refine M.op trivial (SOp.ld1e rfl hu' rfl rfl rfl) ?_
    refine M.go rfl ?_
    refine M.op trivial (SOp.remK rfl rfl (by omega)) ?_
    unfold kz at hk
    obtain ⟨hk1, hk2, hk3⟩ := hk49
    unfold kz at hk1
    generalize t.tmod 50 = r at hk hk1 hk2 hk3
    refine M.go rfl ?_
    refine M.cond rfl (fun h4 => ?_) (fun h4 => ?_)
    · refine M.go rfl ?_
      rw [show IntKind.i64.wrap (0 - r) = (k : Int) by rw [wr64 (by omega) (by omega)]; omega]
      refine M.op trivial (SOp.mkS1 (k := k) (z := .int .u8 0) rfl rfl rfl rfl (by omega)) ?_
      refine M.freezeO (i := 45) rfl rfl (by simp) ?_
      rw [← zs_P]
      refine M.use trivial A [(0, 0), (1, 1), (2, 2), (3, 3)] rfl rfl rfl (by repeat' (first | exact True.intro | refine ⟨⟨_, _, _, rfl, rfl, rfl, WkO.rfl⟩, ?_⟩ | refine HeapOK.acc rfl rfl ?_ | refine HeapOK.es rfl rfl ?_)) rfl rfl ?_
      refine M.go rfl ?_
      refine M.condN rfl (fun hn => absurd rfl hn) (fun _ => ?_)
      refine M.go rfl ?_
      refine M.cond rfl (fun h5 => ?_) (fun h5 => ?_)
      · refine M.go rfl ?_
        rw [wr64 (n := ((4 + S : Nat) : Int) + (k : Int)) (by omega) (by omega), show ((4 + S : Nat) : Int) + (k : Int) = ((4 + (S + k) : Nat) : Int) by omega]
        refine M.dec rfl (fun h6 => absurd h6 (by omega)) (fun h6 => ?_)
        refine M.go rfl ?_
        rw [show ctr n torn j k = k from if_pos h5] at ih'
        rw [hw2]
        exact M.again (XH.ren [(0, 0), (1, 1), (2, 2), (3, 5)] ih' rfl (by repeat' (first | exact True.intro | refine ⟨⟨_, _, rfl, rfl, Wk.rfl⟩, ?_⟩ | refine ⟨⟨_, _, accV_ren rfl, rfl, Wk.rfl⟩, ?_⟩ | refine ⟨⟨_, _, accV_ren rfl, rfl, Wk.acc0⟩, ?_⟩ | refine ⟨⟨_, _, rfl, rfl, Wk.uncap⟩, ?_⟩ | refine ⟨⟨_, _, rfl, rfl, Wk.nil⟩, ?_⟩)) (by repeat' (first | exact True.intro | refine ⟨⟨_, _, _, rfl, rfl, rfl, WkO.rfl⟩, ?_⟩ | refine HeapOK.acc rfl rfl ?_ | refine HeapOK.es rfl rfl ?_)))
      · refine M.go rfl ?_
        refine M.dec rfl (fun h6 => ?_) (fun h6 => ?_)
        · refine M.go rfl ?_
          refine M.dec rfl (fun h7 => ?_) (fun h7 => absurd (by omega) h7)
          refine M.go rfl ?_
          refine M.cond rfl (fun h8 => ?_) (fun h8 => ?_)
          · refine M.go rfl ?_
            have hmn : minI (k : Int) torn = ((min torn.toNat k : Nat) : Int) := by unfold minI; split <;> omega
            rw [hmn, wr64 (n := ((4 + S : Nat) : Int) + ((min torn.toNat k : Nat) : Int)) (by omega) (by omega), show ((4 + S : Nat) : Int) + ((min torn.toNat k : Nat) : Int) = ((4 + (S + min torn.toNat k) : Nat) : Int) by omega]
            rw [show ctr n torn j k = min torn.toNat k by rw [ctr, if_neg h5, if_pos ⟨h6, by omega⟩]] at ih'
            rw [hw2]
            exact M.again (XH.ren [(0, 0), (1, 1), (2, 2), (3, 5)] ih' rfl (by repeat' (first | exact True.intro | refine ⟨⟨_, _, rfl, rfl, Wk.rfl⟩, ?_⟩ | refine ⟨⟨_, _, accV_ren rfl, rfl, Wk.rfl⟩, ?_⟩ | refine ⟨⟨_, _, accV_ren rfl, rfl, Wk.acc0⟩, ?_⟩ | refine ⟨⟨_, _, rfl, rfl, Wk.uncap⟩, ?_⟩ | refine ⟨⟨_, _, rfl, rfl, Wk.nil⟩, ?_⟩)) (by repeat' (first | exact True.intro | refine ⟨⟨_, _, _, rfl, rfl, rfl, WkO.rfl⟩, ?_⟩ | refine HeapOK.acc rfl rfl ?_ | refine HeapOK.es rfl rfl ?_)))
          · refine M.go rfl ?_
            rw [show ctr n torn j k = 0 by rw [ctr, if_neg h5]; split <;> omega, Nat.add_zero] at ih'
            rw [hw2]
            exact M.again (XH.ren [(0, 0), (1, 1), (2, 2), (3, 5)] ih' rfl (by repeat' (first | exact True.intro | refine ⟨⟨_, _, rfl, rfl, Wk.rfl⟩, ?_⟩ | refine ⟨⟨_, _, accV_ren rfl, rfl, Wk.rfl⟩, ?_⟩ | refine ⟨⟨_, _, accV_ren rfl, rfl, Wk.acc0⟩, ?_⟩ | refine ⟨⟨_, _, rfl, rfl, Wk.uncap⟩, ?_⟩ | refine ⟨⟨_, _, rfl, rfl, Wk.nil⟩, ?_⟩)) (by repeat' (first | exact True.intro | refine ⟨⟨_, _, _, rfl, rfl, rfl, WkO.rfl⟩, ?_⟩ | refine HeapOK.acc rfl rfl ?_ | refine HeapOK.es rfl rfl ?_)))
        · refine M.go rfl ?_
          rw [show ctr n torn j k = 0 by rw [ctr, if_neg h5, if_neg (fun h => h6 h.1)], Nat.add_zero] at ih'
          rw [hw2]
          exact M.again (XH.ren [(0, 0), (1, 1), (2, 2), (3, 5)] ih' rfl (by repeat' (first | exact True.intro | refine ⟨⟨_, _, rfl, rfl, Wk.rfl⟩, ?_⟩ | refine ⟨⟨_, _, accV_ren rfl, rfl, Wk.rfl⟩, ?_⟩ | refine ⟨⟨_, _, accV_ren rfl, rfl, Wk.acc0⟩, ?_⟩ | refine ⟨⟨_, _, rfl, rfl, Wk.uncap⟩, ?_⟩ | refine ⟨⟨_, _, rfl, rfl, Wk.nil⟩, ?_⟩)) (by repeat' (first | exact True.intro | refine ⟨⟨_, _, _, rfl, rfl, rfl, WkO.rfl⟩, ?_⟩ | refine HeapOK.acc rfl rfl ?_ | refine HeapOK.es rfl rfl ?_)))
    · obtain rfl : r = (k : Int) := by omega
      refine M.go rfl ?_
      refine M.op trivial (SOp.mkS1 (k := k) (z := .int .u8 0) rfl rfl rfl rfl (by omega)) ?_
      refine M.freezeO (i := 45) rfl rfl (by simp) ?_
      rw [← zs_P]
      refine M.use trivial A [(0, 0), (1, 1), (2, 2), (3, 3)] rfl rfl rfl (by repeat' (first | exact True.intro | refine ⟨⟨_, _, _, rfl, rfl, rfl, WkO.rfl⟩, ?_⟩ | refine HeapOK.acc rfl rfl ?_ | refine HeapOK.es rfl rfl ?_)) rfl rfl ?_
      refine M.go rfl ?_
      refine M.condN rfl (fun hn => absurd rfl hn) (fun _ => ?_)
      refine M.go rfl ?_
      refine M.cond rfl (fun h5 => ?_) (fun h5 => ?_)
      · refine M.go rfl ?_
        rw [wr64 (n := ((4 + S : Nat) : Int) + (k : Int)) (by omega) (by omega), show ((4 + S : Nat) : Int) + (k : Int) = ((4 + (S + k) : Nat) : Int) by omega]
        refine M.dec rfl (fun h6 => absurd h6 (by omega)) (fun h6 => ?_)
        refine M.go rfl ?_
        rw [show ctr n torn j k = k from if_pos h5] at ih'
        rw [hw2]
        exact M.again (XH.ren [(0, 0), (1, 1), (2, 2), (3, 5)] ih' rfl (by repeat' (first | exact True.intro | refine ⟨⟨_, _, rfl, rfl, Wk.rfl⟩, ?_⟩ | refine ⟨⟨_, _, accV_ren rfl, rfl, Wk.rfl⟩, ?_⟩ | refine ⟨⟨_, _, accV_ren rfl, rfl, Wk.acc0⟩, ?_⟩ | refine ⟨⟨_, _, rfl, rfl, Wk.uncap⟩, ?_⟩ | refine ⟨⟨_, _, rfl, rfl, Wk.nil⟩, ?_⟩)) (by repeat' (first | exact True.intro | refine ⟨⟨_, _, _, rfl, rfl, rfl, WkO.rfl⟩, ?_⟩ | refine HeapOK.acc rfl rfl ?_ | refine HeapOK.es rfl rfl ?_)))
      · refine M.go rfl ?_
        refine M.dec rfl (fun h6 => ?_) (fun h6 => ?_)
        · refine M.go rfl ?_
          refine M.dec rfl (fun h7 => ?_) (fun h7 => absurd (by omega) h7)
          refine M.go rfl ?_
          refine M.cond rfl (fun h8 => ?_) (fun h8 => ?_)
          · refine M.go rfl ?_
            have hmn : minI (k : Int) torn = ((min torn.toNat k : Nat) : Int) := by unfold minI; split <;> omega
            rw [hmn, wr64 (n := ((4 + S : Nat) : Int) + ((min torn.toNat k : Nat) : Int)) (by omega) (by omega), show ((4 + S : Nat) : Int) + ((min torn.toNat k : Nat) : Int) = ((4 + (S + min torn.toNat k) : Nat) : Int) by omega]
            rw [show ctr n torn j k = min torn.toNat k by rw [ctr, if_neg h5, if_pos ⟨h6, by omega⟩]] at ih'
            rw [hw2]
            exact M.again (XH.ren [(0, 0), (1, 1), (2, 2), (3, 5)] ih' rfl (by repeat' (first | exact True.intro | refine ⟨⟨_, _, rfl, rfl, Wk.rfl⟩, ?_⟩ | refine ⟨⟨_, _, accV_ren rfl, rfl, Wk.rfl⟩, ?_⟩ | refine ⟨⟨_, _, accV_ren rfl, rfl, Wk.acc0⟩, ?_⟩ | refine ⟨⟨_, _, rfl, rfl, Wk.uncap⟩, ?_⟩ | refine ⟨⟨_, _, rfl, rfl, Wk.nil⟩, ?_⟩)) (by repeat' (first | exact True.intro | refine ⟨⟨_, _, _, rfl, rfl, rfl, WkO.rfl⟩, ?_⟩ | refine HeapOK.acc rfl rfl ?_ | refine HeapOK.es rfl rfl ?_)))
          · refine M.go rfl ?_
            rw [show ctr n torn j k = 0 by rw [ctr, if_neg h5]; split <;> omega, Nat.add_zero] at ih'
            rw [hw2]
            exact M.again (XH.ren [(0, 0), (1, 1), (2, 2), (3, 5)] ih' rfl (by repeat' (first | exact True.intro | refine ⟨⟨_, _, rfl, rfl, Wk.rfl⟩, ?_⟩ | refine ⟨⟨_, _, accV_ren rfl, rfl, Wk.rfl⟩, ?_⟩ | refine ⟨⟨_, _, accV_ren rfl, rfl, Wk.acc0⟩, ?_⟩ | refine ⟨⟨_, _, rfl, rfl, Wk.uncap⟩, ?_⟩ | refine ⟨⟨_, _, rfl, rfl, Wk.nil⟩, ?_⟩)) (by repeat' (first | exact True.intro | refine ⟨⟨_, _, _, rfl, rfl, rfl, WkO.rfl⟩, ?_⟩ | refine HeapOK.acc rfl rfl ?_ | refine HeapOK.es rfl rfl ?_)))
        · refine M.go rfl ?_
          rw [show ctr n torn j k = 0 by rw [ctr, if_neg h5, if_neg (fun h => h6 h.1)], Nat.add_zero] at ih'
          rw [hw2]
          exact M.again (XH.ren [(0, 0), (1, 1), (2, 2), (3, 5)] ih' rfl (by repeat' (first | exact True.intro | refine ⟨⟨_, _, rfl, rfl, Wk.rfl⟩, ?_⟩ | refine ⟨⟨_, _, accV_ren rfl, rfl, Wk.rfl⟩, ?_⟩ | refine ⟨⟨_, _, accV_ren rfl, rfl, Wk.acc0⟩, ?_⟩ | refine ⟨⟨_, _, rfl, rfl, Wk.uncap⟩, ?_⟩ | refine ⟨⟨_, _, rfl, rfl, Wk.nil⟩, ?_⟩)) (by repeat' (first | exact True.intro | refine ⟨⟨_, _, _, rfl, rfl, rfl, WkO.rfl⟩, ?_⟩ | refine HeapOK.acc rfl rfl ?_ | refine HeapOK.es rfl rfl ?_)))
theorem torn_first (z : Bool) (T : List Int) (ct : Option Nat) (n torn : Int) (Q : QX) (hq0 : ksT T = [] → Q (.exit 0) (toX n torn 0) (hD0 mB (tF 0 none) 1 (tF 0 none) 1)) (hq : ∀ k0 pr cp, ksT T = k0 :: pr → Q (.exit 0) (toX n torn (ctrs n torn 0 (ksT T))) (hD1 3 mB (tF 0 none) 1 (tF (ksT T).sum cp) 1 (tcg k0).pc (pcs pr))) :
    XH Try.prog base lTo.1.n 0 (lTo.1.c.lp 0) (toE z T ct n torn 0 0) (hD0 mB (tF 0 none) 1 (tF 0 none) 1) Q := by
  have hTl : (inP T).length = T.length := by simp [inP]
  have hkl := ksT_len T
  rcases hks : ksT T with _ | ⟨k, rest⟩
  · have hq' := hq0 hks
    have hl0 : T.length = 0 := by rw [hks] at hkl; simp at hkl; omega
    refine M.round (M.go rfl ?_)
    refine M.dec rfl (fun h1 => absurd h1 (by rw [hTl]; omega)) (fun h1 => ?_)
    refine M.go rfl ?_
    refine M.ren [(0, 0), (1, 1), (2, 2)] ?_ trivial rfl (by repeat' (first | exact True.intro | refine ⟨⟨_, _, rfl, rfl, Wk.rfl⟩, ?_⟩ | refine ⟨⟨_, _, accV_ren rfl, rfl, Wk.rfl⟩, ?_⟩ | refine ⟨⟨_, _, accV_ren rfl, rfl, Wk.acc0⟩, ?_⟩ | refine ⟨⟨_, _, rfl, rfl, Wk.uncap⟩, ?_⟩ | refine ⟨⟨_, _, rfl, rfl, Wk.nil⟩, ?_⟩)) (by repeat' (first | exact True.intro | refine ⟨⟨_, _, _, rfl, rfl, rfl, WkO.rfl⟩, ?_⟩ | refine HeapOK.acc rfl rfl ?_ | refine HeapOK.es rfl rfl ?_)) (e' := toX n torn 0) (h' := hD0 mB (tF 0 none) 1 (tF 0 none) 1)
    exact M.exit (M.go rfl (M.done hq'))
  · obtain ⟨t, hu, hk, hlt, h20'⟩ := ksT_at (pre := []) hks
    have hk49 := kz_le t
    have ih' := torn_loop (base := base) z T ct n torn Q hq rest k [] (cpN 0 k none) hks
    have hck := ctr_le n torn 0 k
    rw [show ctrs n torn 0 [k] = ctr n torn 0 k from rfl, show ([k] : List Nat).sum = k by simp, show ([k] : List Nat).length = 0 + 1 from rfl] at ih'
    have A := tap0 (base := base) 0 k none (by omega) (by omega)
    rw [Nat.zero_add] at A
    obtain ⟨j, hj⟩ : ∃ j : Nat, j = 0 := ⟨_, rfl⟩
    obtain ⟨S, hS⟩ : ∃ S : Nat, S = 0 := ⟨_, rfl⟩
    rw [show ctr n torn 0 k = S + ctr n torn j k by rw [hS, hj, Nat.zero_add], show 0 + 1 = j + 1 by rw [hj]] at ih'
    rw [show ([] : List Nat).length = j from hj.symm] at hu hlt h20'
    rw [← hj] at hck
    show XH Try.prog base lTo.1.n 0 (lTo.1.c.lp 0) (toE z T ct n torn 0 0) (hD0 mB (tF 0 none) 1 (tF 0 none) 1) Q
    have e1 : toE z T ct n torn 0 0 = toE z T ct n torn S j := by rw [hS, hj]
    rw [e1]
    have hS0 : S ≤ 0 := by omega
    clear hS e1
    have hw2 : IntKind.i64.wrap ((j : Int) + 1) = ((j + 1 : Nat) : Int) := by rw [wr64 (by omega) (by omega)]; omega
    have hu' : (inP T)[((j : Int)).toNat]? = some (.int .i64 t) := by rw [show ((j : Int)).toNat = j by omega]; exact hu
    refine M.round (M.go rfl ?_)
    refine M.dec rfl (fun h1 => ?_) (fun h1 => absurd (by rw [hTl]; omega) h1)
    refine M.go rfl ?_
    refine M.cond rfl (fun _ => ?_) (fun h2 => absurd (by omega) h2)
    refine M.go rfl ?_
    refine M.op trivial (SOp.ia rfl rfl (by omega) hu') ?_
    refine M.op trivial (SOp.ld1e rfl hu' rfl rfl rfl) ?_
    refine M.go rfl ?_
    refine M.op trivial (SOp.remK rfl rfl (by omega)) ?_
    unfold kz at hk
    obtain ⟨hk1, hk2, hk3⟩ := hk49
    unfold kz at hk1
    generalize t.tmod 50 = r at hk hk1 hk2 hk3
    refine M.go rfl ?_
    refine M.cond rfl (fun h4 => ?_) (fun h4 => ?_)
    · refine M.go rfl ?_
      rw [show IntKind.i64.wrap (0 - r) = (k : Int) by rw [wr64 (by omega) (by omega)]; omega]
      refine M.op trivial (SOp.mkS1 (k := k) (z := .int .u8 0) rfl rfl rfl rfl (by omega)) ?_
      refine M.freezeO (i := 45) rfl rfl (by simp) ?_
      rw [← zs_P]
      refine M.use trivial A [(0, 0), (1, 1), (2, 2)] rfl rfl rfl (by repeat' (first | exact True.intro | refine ⟨⟨_, _, _, rfl, rfl, rfl, WkO.rfl⟩, ?_⟩ | refine HeapOK.acc rfl rfl ?_ | refine HeapOK.es rfl rfl ?_)) rfl rfl ?_
      refine M.go rfl ?_
      refine M.condN rfl (fun hn => absurd rfl hn) (fun _ => ?_)
      refine M.go rfl ?_
      refine M.cond rfl (fun h5 => ?_) (fun h5 => ?_)
      · refine M.go rfl ?_
        rw [wr64 (n := ((4 + S : Nat) : Int) + (k : Int)) (by omega) (by omega), show ((4 + S : Nat) : Int) + (k : Int) = ((4 + (S + k) : Nat) : Int) by omega]
        refine M.dec rfl (fun h6 => absurd h6 (by omega)) (fun h6 => ?_)
        refine M.go rfl ?_
        rw [show ctr n torn j k = k from if_pos h5] at ih'
        rw [hw2]
        exact M.again (XH.ren [(0, 0), (1, 1), (2, 2), (3, 4)] ih' rfl (by repeat' (first | exact True.intro | refine ⟨⟨_, _, rfl, rfl, Wk.rfl⟩, ?_⟩ | refine ⟨⟨_, _, accV_ren rfl, rfl, Wk.rfl⟩, ?_⟩ | refine ⟨⟨_, _, accV_ren rfl, rfl, Wk.acc0⟩, ?_⟩ | refine ⟨⟨_, _, rfl, rfl, Wk.uncap⟩, ?_⟩ | refine ⟨⟨_, _, rfl, rfl, Wk.nil⟩, ?_⟩)) (by repeat' (first | exact True.intro | refine ⟨⟨_, _, _, rfl, rfl, rfl, WkO.rfl⟩, ?_⟩ | refine HeapOK.acc rfl rfl ?_ | refine HeapOK.es rfl rfl ?_)))
      · refine M.go rfl ?_
        refine M.dec rfl (fun h6 => ?_) (fun h6 => ?_)
        · refine M.go rfl ?_
          refine M.dec rfl (fun h7 => ?_) (fun h7 => absurd (by omega) h7)
          refine M.go rfl ?_
          refine M.cond rfl (fun h8 => ?_) (fun h8 => ?_)
          · refine M.go rfl ?_
            have hmn : minI (k : Int) torn = ((min torn.toNat k : Nat) : Int) := by unfold minI; split <;> omega
            rw [hmn, wr64 (n := ((4 + S : Nat) : Int) + ((min torn.toNat k : Nat) : Int)) (by omega) (by omega), show ((4 + S : Nat) : Int) + ((min torn.toNat k : Nat) : Int) = ((4 + (S + min torn.toNat k) : Nat) : Int) by omega]
            rw [show ctr n torn j k = min torn.toNat k by rw [ctr, if_neg h5, if_pos ⟨h6, by omega⟩]] at ih'
            rw [hw2]
            exact M.again (XH.ren [(0, 0), (1, 1), (2, 2), (3, 4)] ih' rfl (by repeat' (first | exact True.intro | refine ⟨⟨_, _, rfl, rfl, Wk.rfl⟩, ?_⟩ | refine ⟨⟨_, _, accV_ren rfl, rfl, Wk.rfl⟩, ?_⟩ | refine ⟨⟨_, _, accV_ren rfl, rfl, Wk.acc0⟩, ?_⟩ | refine ⟨⟨_, _, rfl, rfl, Wk.uncap⟩, ?_⟩ | refine ⟨⟨_, _, rfl, rfl, Wk.nil⟩, ?_⟩)) (by repeat' (first | exact True.intro | refine ⟨⟨_, _, _, rfl, rfl, rfl, WkO.rfl⟩, ?_⟩ | refine HeapOK.acc rfl rfl ?_ | refine HeapOK.es rfl rfl ?_)))
          · refine M.go rfl ?_
            rw [show ctr n torn j k = 0 by rw [ctr, if_neg h5]; split <;> omega, Nat.add_zero] at ih'
            rw [hw2]
            exact M.again (XH.ren [(0, 0), (1, 1), (2, 2), (3, 4)] ih' rfl (by repeat' (first | exact True.intro | refine ⟨⟨_, _, rfl, rfl, Wk.rfl⟩, ?_⟩ | refine ⟨⟨_, _, accV_ren rfl, rfl, Wk.rfl⟩, ?_⟩ | refine ⟨⟨_, _, accV_ren rfl, rfl, Wk.acc0⟩, ?_⟩ | refine ⟨⟨_, _, rfl, rfl, Wk.uncap⟩, ?_⟩ | refine ⟨⟨_, _, rfl, rfl, Wk.nil⟩, ?_⟩)) (by repeat' (first | exact True.intro | refine ⟨⟨_, _, _, rfl, rfl, rfl, WkO.rfl⟩, ?_⟩ | refine HeapOK.acc rfl rfl ?_ | refine HeapOK.es rfl rfl ?_)))
        · refine M.go rfl ?_
          rw [show ctr n torn j k = 0 by rw [ctr, if_neg h5, if_neg (fun h => h6 h.1)], Nat.add_zero] at ih'
          rw [hw2]
          exact M.again (XH.ren [(0, 0), (1, 1), (2, 2), (3, 4)] ih' rfl (by repeat' (first | exact True.intro | refine ⟨⟨_, _, rfl, rfl, Wk.rfl⟩, ?_⟩ | refine ⟨⟨_, _, accV_ren rfl, rfl, Wk.rfl⟩, ?_⟩ | refine ⟨⟨_, _, accV_ren rfl, rfl, Wk.acc0⟩, ?_⟩ | refine ⟨⟨_, _, rfl, rfl, Wk.uncap⟩, ?_⟩ | refine ⟨⟨_, _, rfl, rfl, Wk.nil⟩, ?_⟩)) (by repeat' (first | exact True.intro | refine ⟨⟨_, _, _, rfl, rfl, rfl, WkO.rfl⟩, ?_⟩ | refine HeapOK.acc rfl rfl ?_ | refine HeapOK.es rfl rfl ?_)))
    · obtain rfl : r = (k : Int) := by omega
      refine M.go rfl ?_
      refine M.op trivial (SOp.mkS1 (k := k) (z := .int .u8 0) rfl rfl rfl rfl (by omega)) ?_
      refine M.freezeO (i := 45) rfl rfl (by simp) ?_
      rw [← zs_P]
      refine M.use trivial A [(0, 0), (1, 1), (2, 2)] rfl rfl rfl (by repeat' (first | exact True.intro | refine ⟨⟨_, _, _, rfl, rfl, rfl, WkO.rfl⟩, ?_⟩ | refine HeapOK.acc rfl rfl ?_ | refine HeapOK.es rfl rfl ?_)) rfl rfl ?_
      refine M.go rfl ?_
      refine M.condN rfl (fun hn => absurd rfl hn) (fun _ => ?_)
      refine M.go rfl ?_
      refine M.cond rfl (fun h5 => ?_) (fun h5 => ?_)
      · refine M.go rfl ?_
        rw [wr64 (n := ((4 + S : Nat) : Int) + (k : Int)) (by omega) (by omega), show ((4 + S : Nat) : Int) + (k : Int) = ((4 + (S + k) : Nat) : Int) by omega]
        refine M.dec rfl (fun h6 => absurd h6 (by omega)) (fun h6 => ?_)
        refine M.go rfl ?_
        rw [show ctr n torn j k = k from if_pos h5] at ih'
        rw [hw2]
        exact M.again (XH.ren [(0, 0), (1, 1), (2, 2), (3, 4)] ih' rfl (by repeat' (first | exact True.intro | refine ⟨⟨_, _, rfl, rfl, Wk.rfl⟩, ?_⟩ | refine ⟨⟨_, _, accV_ren rfl, rfl, Wk.rfl⟩, ?_⟩ | refine ⟨⟨_, _, accV_ren rfl, rfl, Wk.acc0⟩, ?_⟩ | refine ⟨⟨_, _, rfl, rfl, Wk.uncap⟩, ?_⟩ | refine ⟨⟨_, _, rfl, rfl, Wk.nil⟩, ?_⟩)) (by repeat' (first | exact True.intro | refine ⟨⟨_, _, _, rfl, rfl, rfl, WkO.rfl⟩, ?_⟩ | refine HeapOK.acc rfl rfl ?_ | refine HeapOK.es rfl rfl ?_)))
      · refine M.go rfl ?_
        refine M.dec rfl (fun h6 => ?_) (fun h6 => ?_)
        · refine M.go rfl ?_
          refine M.dec rfl (fun h7 => ?_) (fun h7 => absurd (by omega) h7)
          refine M.go rfl ?_
          refine M.cond rfl (fun h8 => ?_) (fun h8 => ?_)
          · refine M.go rfl ?_
            have hmn : minI (k : Int) torn = ((min torn.toNat k : Nat) : Int) := by unfold minI; split <;> omega
            rw [hmn, wr64 (n := ((4 + S : Nat) : Int) + ((min torn.toNat k : Nat) : Int)) (by omega) (by omega), show ((4 + S : Nat) : Int) + ((min torn.toNat k : Nat) : Int) = ((4 + (S + min torn.toNat k) : Nat) : Int) by omega]
            rw [show ctr n torn j k = min torn.toNat k by rw [ctr, if_neg h5, if_pos ⟨h6, by omega⟩]] at ih'
            rw [hw2]
            exact M.again (XH.ren [(0, 0), (1, 1), (2, 2), (3, 4)] ih' rfl (by repeat' (first | exact True.intro | refine ⟨⟨_, _, rfl, rfl, Wk.rfl⟩, ?_⟩ | refine ⟨⟨_, _, accV_ren rfl, rfl, Wk.rfl⟩, ?_⟩ | refine ⟨⟨_, _, accV_ren rfl, rfl, Wk.acc0⟩, ?_⟩ | refine ⟨⟨_, _, rfl, rfl, Wk.uncap⟩, ?_⟩ | refine ⟨⟨_, _, rfl, rfl, Wk.nil⟩, ?_⟩)) (by repeat' (first | exact True.intro | refine ⟨⟨_, _, _, rfl, rfl, rfl, WkO.rfl⟩, ?_⟩ | refine HeapOK.acc rfl rfl ?_ | refine HeapOK.es rfl rfl ?_)))
          · refine M.go rfl ?_
            rw [show ctr n torn j k = 0 by rw [ctr, if_neg h5]; split <;> omega, Nat.add_zero] at ih'
            rw [hw2]
            exact M.again (XH.ren [(0, 0), (1, 1), (2, 2), (3, 4)] ih' rfl (by repeat' (first | exact True.intro | refine ⟨⟨_, _, rfl, rfl, Wk.rfl⟩, ?_⟩ | refine ⟨⟨_, _, accV_ren rfl, rfl, Wk.rfl⟩, ?_⟩ | refine ⟨⟨_, _, accV_ren rfl, rfl, Wk.acc0⟩, ?_⟩ | refine ⟨⟨_, _, rfl, rfl, Wk.uncap⟩, ?_⟩ | refine ⟨⟨_, _, rfl, rfl, Wk.nil⟩, ?_⟩)) (by repeat' (first | exact True.intro | refine ⟨⟨_, _, _, rfl, rfl, rfl, WkO.rfl⟩, ?_⟩ | refine HeapOK.acc rfl rfl ?_ | refine HeapOK.es rfl rfl ?_)))
        · refine M.go rfl ?_
          rw [show ctr n torn j k = 0 by rw [ctr, if_neg h5, if_neg (fun h => h6 h.1)], Nat.add_zero] at ih'
          rw [hw2]
          exact M.again (XH.ren [(0, 0), (1, 1), (2, 2), (3, 4)] ih' rfl (by repeat' (first | exact True.intro | refine ⟨⟨_, _, rfl, rfl, Wk.rfl⟩, ?_⟩ | refine ⟨⟨_, _, accV_ren rfl, rfl, Wk.rfl⟩, ?_⟩ | refine ⟨⟨_, _, accV_ren rfl, rfl, Wk.acc0⟩, ?_⟩ | refine ⟨⟨_, _, rfl, rfl, Wk.uncap⟩, ?_⟩ | refine ⟨⟨_, _, rfl, rfl, Wk.nil⟩, ?_⟩)) (by repeat' (first | exact True.intro | refine ⟨⟨_, _, _, rfl, rfl, rfl, WkO.rfl⟩, ?_⟩ | refine HeapOK.acc rfl rfl ?_ | refine HeapOK.es rfl rfl ?_)))
theorem sub_f (m : Nat) (cp : Option Nat) : findP nmF (tF m cp) = some (fP false (syn ++ zs m) cp) := rfl
theorem DiskTorn_spec (z : Bool) (T : List Int) (ct : Option Nat) (n torn : Int) : CallS Try.prog base 10 [.c (.p (.tz z 1 (inP T) ct)), .c (.p (.int .i64 n)), .c (.p (.int .i64 torn))] ⟨[], 0⟩ (.c (.p (.bool true))) ⟨[], 0⟩ := by
  refine CallS.of noNG lTo.2 rfl (M.start (M.go rfl ?_))
  refine M.use0 trivial begun3_spec rfl rfl rfl ?_
  refine M.go rfl ?_
  refine M.use trivial (dnew_spec 1048576) [] rfl rfl rfl trivial rfl rfl ?_
  refine M.go rfl ?_
  refine M.op trivial (SOp.cvO rfl rfl (by decide)) ?_
  refine M.freezeO (i := 20) rfl rfl rfl ?_
  refine M.use trivial (append0_spec mB [] 0 [] 0 nmF false syn (some 4) may_f (f0_ok 0) (by decide) (by decide) (.inr (by decide)) _ _ (do_first nmF [] 0 false syn none (by decide) (by decide))) [(0, 0), (1, 1), (2, 2)] rfl rfl rfl (by repeat' (first | exact True.intro | refine ⟨⟨_, _, _, rfl, rfl, rfl, WkO.rfl⟩, ?_⟩ | refine HeapOK.acc rfl rfl ?_ | refine HeapOK.es rfl rfl ?_)) rfl rfl ?_
  refine M.go rfl ?_
  refine M.use trivial (sync1_spec mB [] 0 (f1 nmF (fP false syn none)) 1 _ _) [(0, 0), (1, 1), (2, 2), (3, 4)] rfl rfl rfl (by repeat' (first | exact True.intro | refine ⟨⟨_, _, _, rfl, rfl, rfl, WkO.rfl⟩, ?_⟩ | refine HeapOK.acc rfl rfl ?_ | refine HeapOK.es rfl rfl ?_)) rfl rfl ?_
  refine M.go rfl ?_
  refine M.loop (XH.ren [(0, 0), (1, 5), (2, 2)] (torn_first z T ct n torn _ (fun hk => ?_) (fun k0 pr cp hk => ?_)) rfl (by repeat' (first | exact True.intro | refine ⟨⟨_, _, rfl, rfl, Wk.rfl⟩, ?_⟩ | refine ⟨⟨_, _, accV_ren rfl, rfl, Wk.rfl⟩, ?_⟩ | refine ⟨⟨_, _, accV_ren rfl, rfl, Wk.acc0⟩, ?_⟩ | refine ⟨⟨_, _, rfl, rfl, Wk.uncap⟩, ?_⟩ | refine ⟨⟨_, _, rfl, rfl, Wk.nil⟩, ?_⟩)) (by repeat' (first | exact True.intro | refine ⟨⟨_, _, _, rfl, rfl, rfl, WkO.rfl⟩, ?_⟩ | refine HeapOK.acc rfl rfl ?_ | refine HeapOK.es rfl rfl ?_)))
  · refine M.q (M.go rfl ?_)
    refine M.use trivial (crash0_spec mB (tF 0 none) 1 (tF 0 none) 1 n torn) [(0, 0), (1, 1), (2, 2)] rfl rfl rfl (by repeat' (first | exact True.intro | refine ⟨⟨_, _, _, rfl, rfl, rfl, WkO.rfl⟩, ?_⟩ | refine HeapOK.acc rfl rfl ?_ | refine HeapOK.es rfl rfl ?_)) rfl rfl ?_
    refine M.go rfl ?_
    refine M.use trivial (read0_spec mB (tF 0 none) 1 (tF 0 none) 1 nmF false (syn ++ zs 0) none rfl (by decide)) [(0, 3), (1, 4), (2, 5)] rfl rfl rfl (by repeat' (first | exact True.intro | refine ⟨⟨_, _, _, rfl, rfl, rfl, WkO.rfl⟩, ?_⟩ | refine HeapOK.acc rfl rfl ?_ | refine HeapOK.es rfl rfl ?_)) rfl rfl ?_
    refine M.go rfl ?_
    refine M.dec rfl (fun _ => ?_) (fun hn => absurd (by decide) hn)
    refine M.go rfl ?_
    refine M.op (by first | exact True.intro | exact rfl) (SOp.sl (l := 0) (r := 4) rfl rfl ⟨_, _, rfl, by decide, rfl⟩ (by decide) (by rw [u8P_len]; simp [syn])) ?_
    rw [List.drop_zero, Nat.sub_zero, u8P_take, show (syn ++ zs 0).take 4 = syn by simp [syn]]
    refine M.go rfl ?_
    refine M.op (by first | exact True.intro | exact rfl) (SOp.cvBS (l := [115, 121, 110, 99]) rfl rfl) ?_
    refine M.go rfl ?_
    refine M.decC (s := 6) rfl (fun _ => ?_) (fun hn => by cases hn)
    exact M.ret (M.go rfl (M.done (finQ.ret [] rfl rfl rfl (by first | exact Wk.rfl | exact Wk.uncap | exact Wk.nil | exact Wk.b1 rfl | exact Wk.t2 Wk.rfl (Wk.b1 rfl)) (by repeat' (first | exact True.intro | refine ⟨⟨_, _, _, rfl, rfl, rfl, WkO.rfl⟩, ?_⟩ | refine HeapOK.acc rfl rfl ?_ | refine HeapOK.es rfl rfl ?_)))))
  · have hle := ksT_le T
    have hl := ksT_len T
    obtain ⟨cp', hc⟩ := torn_cr n torn (ksT T) 0 0 none hle (by omega)
    rw [Nat.zero_add] at hc
    have hcl := ctrs_le n torn (ksT T) 0 hle
    obtain ⟨S, hS⟩ : ∃ S, S = ctrs n torn 0 (ksT T) := ⟨_, rfl⟩
    rw [← hS] at hc hcl ⊢
    refine M.q (M.go rfl ?_)
    refine M.use trivial (crash1_spec mB (tF 0 none) 1 (tF (ksT T).sum cp) 1 (tcg k0).pc (pcs pr) ((ksT T).map tcg) (by rw [hk]; simp [pcs]) (by rw [List.length_map]; omega) n torn _ hc) [(0, 0), (1, 1), (2, 2), (3, 3)] rfl rfl rfl (by repeat' (first | exact True.intro | refine ⟨⟨_, _, _, rfl, rfl, rfl, WkO.rfl⟩, ?_⟩ | refine HeapOK.acc rfl rfl ?_ | refine HeapOK.es rfl rfl ?_)) rfl rfl ?_
    refine M.go rfl ?_
    refine M.use trivial (read0_spec mB (tF S cp') 1 (tF S cp') 1 nmF false (syn ++ zs S) cp' rfl (by simp [syn, zs]; omega)) [(0, 4), (1, 5), (2, 6)] rfl rfl rfl (by repeat' (first | exact True.intro | refine ⟨⟨_, _, _, rfl, rfl, rfl, WkO.rfl⟩, ?_⟩ | refine HeapOK.acc rfl rfl ?_ | refine HeapOK.es rfl rfl ?_)) rfl rfl ?_
    refine M.go rfl ?_
    refine M.dec rfl (fun _ => ?_) (fun hn => absurd (by rw [u8P_len, List.length_append, zs_len]; rfl) hn)
    refine M.go rfl ?_
    refine M.op (by first | exact True.intro | exact rfl) (SOp.sl (l := 0) (r := 4) rfl rfl ⟨_, _, rfl, by decide, rfl⟩ (by decide) (by rw [u8P_len]; simp [syn])) ?_
    rw [List.drop_zero, Nat.sub_zero, u8P_take, show (syn ++ zs S).take 4 = syn by simp [syn]]
    refine M.go rfl ?_
    refine M.op (by first | exact True.intro | exact rfl) (SOp.cvBS (l := [115, 121, 110, 99]) rfl rfl) ?_
    refine M.go rfl ?_
    refine M.decC (s := 6) rfl (fun _ => ?_) (fun hn => by cases hn)
    exact M.ret (M.go rfl (M.done (finQ.ret [] rfl rfl rfl (by first | exact Wk.rfl | exact Wk.uncap | exact Wk.nil | exact Wk.b1 rfl | exact Wk.t2 Wk.rfl (Wk.b1 rfl)) (by repeat' (first | exact True.intro | refine ⟨⟨_, _, _, rfl, rfl, rfl, WkO.rfl⟩, ?_⟩ | refine HeapOK.acc rfl rfl ?_ | refine HeapOK.es rfl rfl ?_)))))
theorem DiskTorn_law {p0 p1 p2 : PC} (h0 : Is (.sl 1 8 (.int .i64)) p0) (h1 : Is (.int .i64) p1) (h2 : Is (.int .i64) p2) : CallS Try.prog base 10 [xvP p0, xvP p1, xvP p2] ⟨[], 0⟩ (.c (.p (.bool true))) ⟨[], 0⟩ := by
  obtain ⟨z, T, rfl, hT, -⟩ := h0.ints
  obtain ⟨n, rfl, -⟩ := h1.i64
  obtain ⟨torn, rfl, -⟩ := h2.i64
  exact DiskTorn_spec z T none n torn
end Go.Proofs.Ytjlfojgacnphmaa

namespace Go.Proofs.Ytjlfojgacnphmaa
open Go.RowKit Sim Go Sym
set_option maxRecDepth 100000
set_option linter.unusedVariables false
set_option linter.unusedSimpArgs false
variable {base : Nat}
def nm (i : Nat) : List Nat := [102, 97 + i / 26, 97 + i % 26]
theorem nm_inj {i j : Nat} (h : nm i = nm j) : i = j := by
  simp only [nm, List.cons.injEq] at h
  omega
theorem may_all : (List.range 80).all (fun i => isTrue (callF Try.prog 300 70 [SV.c (.str (nm i))] noMem)) = true := by kernel_rfl
theorem may_nm {i : Nat} (hi : i < 80) : CallS Try.prog base 70 [.c (.p (.str (nm i)))] ⟨[], 0⟩ (.c (.p (.bool true))) ⟨[], 0⟩ := by
  have h := List.all_eq_true.1 may_all i (List.mem_range.2 hi)
  cases hq : callF Try.prog 300 70 [SV.c (.str (nm i))] noMem with
  | none => rw [hq] at h; cases h
  | some r =>
    rw [hq] at h
    obtain ⟨v, h'⟩ := r
    unfold Sim.isTrue at h
    split at h
    · rename_i h1
      simp only [Option.some.injEq, Prod.mk.injEq] at h1
      obtain ⟨rfl, rfl⟩ := h1
      exact CallS.reck (r := .bool true) mixed noNG hq
    · cases h
end Go.Proofs.Ytjlfojgacnphmaa

namespace Go.Proofs.Ytjlfojgacnphmaa
open Go.RowKit Sim Go Sym
set_option maxRecDepth 100000
set_option linter.unusedVariables false
set_option linter.unusedSimpArgs false
variable {base : Nat}
def oneF : PC := fP false [1] none
def Fm (k : Nat) : FS := (List.range k).map fun j => (j, nm j, oneF)
def ch (j : Nat) : PC := .agg (chX 0 (nm j) [] oneF 0)
def Wm (k : Nat) : List PC := (List.range k).map fun j => ch (j + 1)
theorem Fm_len (k : Nat) : (Fm k).length = k := by simp [Fm]
theorem Fm_succ (k : Nat) : Fm (k + 1) = Fm k ++ [(k, nm k, oneF)] := by simp [Fm, List.range_succ]
theorem Wm_succ (k : Nat) : Wm (k + 1) = Wm k ++ [ch (k + 1)] := by simp [Wm, List.range_succ]
theorem Wm_len (k : Nat) : (Wm k).length = k := by simp [Wm]
theorem findP_none {a : List Nat} : ∀ {F : FS}, (∀ e ∈ F, a ≠ e.2.1) → findP a F = none
  | [], _ => rfl
  | e :: F, h => by rw [findP, if_neg (h e (by simp)), findP_none fun x hx => h x (by simp [hx])]
theorem setP_none {a : List Nat} {v : PC} : ∀ {F : FS}, (∀ e ∈ F, a ≠ e.2.1) → setP a v F = none
  | [], _ => rfl
  | e :: F, h => by rw [setP, if_neg (h e (by simp)), setP_none fun x hx => h x (by simp [hx])]
theorem Fm_new {i k : Nat} (h : k ≤ i) : ∀ e ∈ Fm k, nm i ≠ e.2.1 := fun e he hc => by
  simp only [Fm, List.mem_map, List.mem_range] at he
  obtain ⟨j, hj, rfl⟩ := he
  have := nm_inj hc
  omega
theorem Fm_ok (k : Nat) : FOK (Fm k) k := by
  refine ⟨fun e he => ?_, ?_, fun e he => ?_⟩
  · simp only [Fm, List.mem_map, List.mem_range] at he
    obtain ⟨j, hj, rfl⟩ := he
    exact hj
  · have : (Fm k).map (·.1) = List.range k := by simp only [Fm, List.map_map]; exact List.map_id _
    rw [this]; exact List.nodup_range
  · simp only [Fm, List.mem_map, List.mem_range] at he
    obtain ⟨j, hj, rfl⟩ := he
    exact ⟨false, [1], none, rfl⟩
theorem Fm_nok (k : Nat) (h : k ≤ 1000) : NOK (Fm k) := by
  refine ⟨?_, fun e he => ?_, by rw [Fm_len]; omega⟩
  · have : (Fm k).map (fun e => e.2.1) = (List.range k).map nm := by simp [Fm, List.map_map, Function.comp]
    rw [this]
    exact List.pairwise_map.2 (List.nodup_range.imp fun hne e => hne (nm_inj e))
  · simp only [Fm, List.mem_map, List.mem_range] at he
    obtain ⟨j, hj, rfl⟩ := he
    simp [nm]
theorem Fm_used (k : Nat) : usedN (Fm k) = k := by
  induction k with
  | zero => rfl
  | succ k ih =>
    rw [Fm_succ]
    simp only [usedN, List.map_append, List.sum_append] at ih ⊢
    rw [ih]
    simp [oneF, lenP, fP, u8P]
theorem Fm_do (k : Nat) : CallS Try.prog base 66 [.c (.mp 0), .agg ((chX 0 (nm k) [] (fP false [1] none) 0).map XC.p), .c (.p (.int .i64 ([1] : List Int).length))] ⟨[(0, some (fM (Fm k) k))], 1⟩ (.tup []) ⟨[(0, some (fM (Fm (k + 1)) (k + 1)))], 1⟩ := by
  have hn := Fm_new (Nat.le_refl k)
  have := do_app0 (base := base) (Fm k) k (nm k) [] 0 (findP_none hn) false [1] none 1 (by decide) (by decide)
  rw [show ([1] : List Int).take 1 = [1] from rfl, apF_ne (by decide), updP, updPC, setP_none hn] at this
  simp only [] at this
  rw [Fm_succ]
  exact this
def kB : Int := roomI 1000
theorem kB_eq : kB = 1000 := by decide
theorem map0 (k : Nat) (hk : k = 0) (cb : Option Nat) : CallS Try.prog base 33 [.c (.ptr 0 0), .c (.p (.str (nm 0))), .c (.p (.tz false 1 (u8P [1]) cb))] (hD0 kB [] 0 [] 0) (.c (.p (.int .i64 0))) (hD1 3 kB [] 0 (Fm 1) 1 (ch 0) []) :=
  append0_spec kB [] 0 [] 0 (nm 0) false [1] cb (may_nm (by decide)) (f0_ok 0) (by rw [kB_eq]; decide) (by rw [kB_eq]; decide) (.inr (by decide)) _ _ (Fm_do 0)
theorem map1 (k : Nat) (hk : k + 1 < 64) (cb : Option Nat) : CallS Try.prog base 33 [.c (.ptr 0 0), .c (.p (.str (nm (k + 1)))), .c (.p (.tz false 1 (u8P [1]) cb))] (hD1 3 kB [] 0 (Fm (k + 1)) (k + 1) (ch 0) (Wm k)) (.c (.p (.int .i64 0))) (hD1 4 kB [] 0 (Fm (k + 1 + 1)) (k + 1 + 1) (ch 0) (Wm (k + 1))) := by
  rw [Wm_succ]
  exact append1_spec kB [] 0 (Fm (k + 1)) (k + 1) (ch 0) (Wm k) (by rw [Wm_len]; omega) (nm (k + 1)) false [1] cb (may_nm (by omega)) (Fm_ok _) (by rw [kB_eq]; decide) (by rw [kB_eq, Fm_used]; show ((k + 1 + 1 : Nat) : Int) ≤ _; omega) (.inr (by rw [Fm_len]; omega)) _ _ (Fm_do (k + 1))
theorem mapF (i : Nat) (h : 64 ≤ i) (h8 : i < 80) (cb : Option Nat) : CallS Try.prog base 33 [.c (.ptr 0 0), .c (.p (.str (nm i))), .c (.p (.tz false 1 (u8P [1]) cb))] (hD1 3 kB [] 0 (Fm 64) 64 (ch 0) (Wm 63)) (.c (.p (.int .i64 2))) (hD1 3 kB [] 0 (Fm 64) 64 (ch 0) (Wm 63)) :=
  append1_full kB [] 0 (Fm 64) 64 (ch 0) (Wm 63) (by rw [Wm_len]; omega) (nm i) false [1] cb (may_nm h8) (Fm_ok _) (by rw [kB_eq]; decide) (by rw [kB_eq, Fm_used]; decide) (findP_none (Fm_new h)) (by rw [Fm_len]; omega)
theorem SOp.quoK {P : Program} {n : Nat} {e : Env} {h : HS} {nk : NK} {x y : LX} {i : IntKind} {a b : Int} (hx : xev e x = some (.c (.p (.int i a)))) (hy : xev e y = some (.c (.p (.int i b)))) (h0 : b ≠ 0) : SOp P n (.bin nk .quo x y) e h (.c (.p (.int i (i.wrap (a.tdiv b))))) h :=
  SOp.bin hx hy (by simp only [binX, if_true, intX]; rw [if_neg h0])
def hMs (i : Nat) : HS := hD1 3 kB [] 0 (Fm (min i 64)) (min i 64) (ch 0) (Wm (min i 64 - 1))
noncomputable def lMa : {F : LF // lowerF Try.prog 9 = some F} := ⟨_, rfl⟩
theorem w8 {n : Nat} (h : n < 256) : IntKind.u8.wrap ((n : Nat) : Int) = n := wr_u8 (by omega) (by omega)
theorem many3_loop (N : Nat) (h80 : N ≤ 80) (Q : QX) (hq : 1 ≤ N → Q (.exit 0) [(0, .c (.p (.int .i64 N))), (4, .c (.ptr 0 0))] (hMs N)) :
    ∀ (rem i : Nat), i + 1 + rem = N → XH Try.prog base lMa.1.n 0 (lMa.1.c.lp 0) [(0, .c (.p (.int .i64 N))), (4, .c (.ptr 0 0)), (5, .c (.p (.int .i64 (i + 1 : Nat))))] (hMs (i + 1)) Q := by
  intro rem
  induction rem with
  | zero =>
    intro i hi
    obtain rfl : N = i + 1 := by omega
    have hq' := hq (by omega)
    refine M.round (M.go rfl ?_)
    refine M.cond rfl (fun hc => absurd hc (by omega)) (fun _ => ?_)
    refine M.ren [(0, 0), (1, 1), (2, 2), (3, 3)] ?_ trivial rfl (by repeat' (first | exact True.intro | refine ⟨⟨_, _, rfl, rfl, Wk.rfl⟩, ?_⟩ | refine ⟨⟨_, _, accV_ren rfl, rfl, Wk.rfl⟩, ?_⟩ | refine ⟨⟨_, _, accV_ren rfl, rfl, Wk.acc0⟩, ?_⟩ | refine ⟨⟨_, _, rfl, rfl, Wk.uncap⟩, ?_⟩ | refine ⟨⟨_, _, rfl, rfl, Wk.nil⟩, ?_⟩)) (by repeat' (first | exact True.intro | refine ⟨⟨_, _, _, rfl, rfl, rfl, WkO.rfl⟩, ?_⟩ | refine HeapOK.acc rfl rfl ?_ | refine HeapOK.es rfl rfl ?_)) (e' := [(0, .c (.p (.int .i64 (i + 1 : Nat)))), (4, .c (.ptr 0 0))]) (h' := hMs (i + 1))
    exact M.exit (M.go rfl (M.done hq'))
  | succ rem ih =>
    intro i hi
    have ih' := ih (i + 1) (by omega)
    obtain ⟨j, hj⟩ : ∃ j, j = i + 1 := ⟨_, rfl⟩
    rw [← hj] at ih' ⊢
    unfold hMs
    have hA : (j < 64 ∧ Fm (min j 64) = Fm j ∧ min j 64 = j ∧ Wm (min j 64 - 1) = Wm i) ∨ (64 ≤ j ∧ Fm (min j 64) = Fm 64 ∧ min j 64 = 64 ∧ Wm (min j 64 - 1) = Wm 63) := by
      by_cases h : j < 64
      · have e : min j 64 = j := by omega
        exact .inl ⟨h, by rw [e], e, by rw [e, hj]; rfl⟩
      · have e : min j 64 = 64 := by omega
        exact .inr ⟨by omega, by rw [e], e, by rw [e]⟩
    generalize Fm (min j 64) = F at hA
    generalize Wm (min j 64 - 1) = W at hA
    generalize min j 64 = c at hA
    have hj8 : j < 80 := by omega
    have hw : IntKind.i64.wrap ((j : Int) + 1) = ((j + 1 : Nat) : Int) := by rw [wr64 (by omega) (by omega)]; omega
    have q1 : IntKind.i64.wrap ((j : Int).tdiv 26) = ((j / 26 : Nat) : Int) := by rw [Int.tdiv_eq_ediv_of_nonneg (by omega), wr64 (by omega) (by omega)]; omega
    have q2 : (j : Int).tmod 26 = ((j % 26 : Nat) : Int) := by rw [Int.tmod_eq_emod_of_nonneg (by omega)]; omega
    have q3 : IntKind.i64.wrap (97 + ((j / 26 : Nat) : Int)) = ((97 + j / 26 : Nat) : Int) := by rw [wr64 (by omega) (by omega)]; omega
    have q4 : IntKind.i64.wrap (97 + ((j % 26 : Nat) : Int)) = ((97 + j % 26 : Nat) : Int) := by rw [wr64 (by omega) (by omega)]; omega
    refine M.round (M.go rfl ?_)
    refine M.cond rfl (fun _ => ?_) (fun hc => absurd (by omega) hc)
    refine M.go rfl ?_
    refine M.op trivial (SOp.quoK rfl rfl (by decide)) ?_
    rw [q1]
    refine M.go rfl ?_
    rw [q3, w8 (n := 97 + j / 26) (by omega)]
    refine M.op trivial (SOp.remK rfl rfl (by decide)) ?_
    rw [q2]
    refine M.go rfl ?_
    rw [q4, w8 (n := 97 + j % 26) (by omega)]
    refine M.freezeO (i := 31) rfl rfl rfl ?_
    refine M.op trivial (SOp.cvBS (l := [97 + j / 26, 97 + j % 26]) rfl (bytesX_map (l := [97 + j / 26, 97 + j % 26]) (by intro b hb; simp at hb; omega))) ?_
    refine M.go rfl ?_
    refine M.op trivial (SOp.bin (r := .str (nm j)) rfl rfl (by show strX .add [102] [97 + j / 26, 97 + j % 26] = some (.str (nm j)); simp [strX, nm])) ?_
    refine M.go rfl ?_
    refine M.freezeO (i := 34) rfl rfl rfl ?_
    rcases hA with ⟨h64, rfl, rfl, rfl⟩ | ⟨h64, rfl, rfl, rfl⟩
    · have hA1 := map1 (base := base) i (by omega) (some 1)
      have e2 : hMs (c + 1) = hD1 3 kB [] 0 (Fm (c + 1)) (c + 1) (ch 0) (Wm c) := by
        unfold hMs
        rw [show min (c + 1) 64 = c + 1 by omega, Nat.add_sub_cancel]
      rw [e2] at ih'
      rw [← hj] at hA1
      refine M.use trivial hA1 [(0, 0), (1, 1), (2, 2), (3, 3)] rfl rfl rfl (by repeat' (first | exact True.intro | refine ⟨⟨_, _, _, rfl, rfl, rfl, WkO.rfl⟩, ?_⟩ | refine HeapOK.acc rfl rfl ?_ | refine HeapOK.es rfl rfl ?_)) rfl rfl ?_
      refine M.go rfl ?_
      refine M.decB rfl (fun hh => absurd hh (by simp; omega)) (fun _ => ?_)
      refine M.go rfl ?_
      refine M.dec rfl (fun hh => absurd hh (by omega)) (fun _ => ?_)
      refine M.go rfl ?_
      rw [hw]
      exact M.again (XH.ren [(0, 0), (1, 1), (2, 2), (3, 6)] ih' rfl (by repeat' (first | exact True.intro | refine ⟨⟨_, _, rfl, rfl, Wk.rfl⟩, ?_⟩ | refine ⟨⟨_, _, accV_ren rfl, rfl, Wk.rfl⟩, ?_⟩ | refine ⟨⟨_, _, accV_ren rfl, rfl, Wk.acc0⟩, ?_⟩ | refine ⟨⟨_, _, rfl, rfl, Wk.uncap⟩, ?_⟩ | refine ⟨⟨_, _, rfl, rfl, Wk.nil⟩, ?_⟩)) (by repeat' (first | exact True.intro | refine ⟨⟨_, _, _, rfl, rfl, rfl, WkO.rfl⟩, ?_⟩ | refine HeapOK.acc rfl rfl ?_ | refine HeapOK.es rfl rfl ?_)))
    · have hA1 := mapF (base := base) j h64 (by omega) (some 1)
      have e2 : hMs (j + 1) = hD1 3 kB [] 0 (Fm 64) 64 (ch 0) (Wm 63) := by
        unfold hMs
        rw [show min (j + 1) 64 = 64 by omega]
      rw [e2] at ih'
      refine M.use trivial hA1 [(0, 0), (1, 1), (2, 2), (3, 3)] rfl rfl rfl (by repeat' (first | exact True.intro | refine ⟨⟨_, _, _, rfl, rfl, rfl, WkO.rfl⟩, ?_⟩ | refine HeapOK.acc rfl rfl ?_ | refine HeapOK.es rfl rfl ?_)) rfl rfl ?_
      refine M.go rfl ?_
      refine M.decB rfl (fun hh => absurd hh (by simp; omega)) (fun _ => ?_)
      refine M.go rfl ?_
      refine M.dec rfl (fun _ => ?_) (fun hh => absurd (by omega) hh)
      refine M.go rfl ?_
      refine M.condN rfl (fun hn => absurd rfl hn) (fun _ => ?_)
      refine M.go rfl ?_
      rw [hw]
      exact M.again (XH.ren [(0, 0), (1, 1), (2, 2), (3, 3)] ih' rfl (by repeat' (first | exact True.intro | refine ⟨⟨_, _, rfl, rfl, Wk.rfl⟩, ?_⟩ | refine ⟨⟨_, _, accV_ren rfl, rfl, Wk.rfl⟩, ?_⟩ | refine ⟨⟨_, _, accV_ren rfl, rfl, Wk.acc0⟩, ?_⟩ | refine ⟨⟨_, _, rfl, rfl, Wk.uncap⟩, ?_⟩ | refine ⟨⟨_, _, rfl, rfl, Wk.nil⟩, ?_⟩)) (by repeat' (first | exact True.intro | refine ⟨⟨_, _, _, rfl, rfl, rfl, WkO.rfl⟩, ?_⟩ | refine HeapOK.acc rfl rfl ?_ | refine HeapOK.es rfl rfl ?_)))
theorem DiskMany_spec (n : Int) : CallS Try.prog base 9 [.c (.p (.int .i64 n))] ⟨[], 0⟩ (.c (.p (.bool true))) ⟨[], 0⟩ := by
  refine CallS.of noNG lMa.2 rfl (M.start (M.go rfl ?_))
  refine M.use0 trivial begun3_spec rfl rfl rfl ?_
  refine M.go rfl ?_
  refine M.dec rfl (fun h1 => ?_) (fun h1 => ?_)
  · refine M.go rfl ?_
    exact M.ret (M.go rfl (M.done (finQ.ret [] rfl rfl rfl (by first | exact Wk.rfl | exact Wk.uncap | exact Wk.nil | exact Wk.b1 rfl | exact Wk.t2 Wk.rfl (Wk.b1 rfl)) (by repeat' (first | exact True.intro | refine ⟨⟨_, _, _, rfl, rfl, rfl, WkO.rfl⟩, ?_⟩ | refine HeapOK.acc rfl rfl ?_ | refine HeapOK.es rfl rfl ?_)))))
  refine M.go rfl ?_
  refine M.cond rfl (fun h2 => ?_) (fun h2 => ?_)
  · refine M.go rfl ?_
    exact M.ret (M.go rfl (M.done (finQ.ret [] rfl rfl rfl (by first | exact Wk.rfl | exact Wk.uncap | exact Wk.nil | exact Wk.b1 rfl | exact Wk.t2 Wk.rfl (Wk.b1 rfl)) (by repeat' (first | exact True.intro | refine ⟨⟨_, _, _, rfl, rfl, rfl, WkO.rfl⟩, ?_⟩ | refine HeapOK.acc rfl rfl ?_ | refine HeapOK.es rfl rfl ?_)))))
  obtain ⟨N, rfl⟩ : ∃ N : Nat, n = N := ⟨n.toNat, by omega⟩
  refine M.go rfl ?_
  refine M.use trivial (dnew_spec 1000) [] rfl rfl rfl trivial rfl rfl ?_
  refine M.go rfl ?_
  refine M.loop (M.round (M.go rfl ?_))
  by_cases h0 : N = 0
  · subst h0
    refine M.cond rfl (fun hn => absurd hn (by simp)) (fun _ => ?_)
    refine M.exit (M.go rfl (M.done (M.q (M.go rfl ?_))))
    refine M.use trivial (names_spec (hD0 kB [] 0 [] 0) kB 1 _ [] 0 rfl rfl (f0_ok 0) ⟨by simp, fun e he => (by cases he), by simp⟩) [(0, 0), (1, 1), (2, 2)] rfl rfl rfl (by repeat' (first | exact True.intro | refine ⟨⟨_, _, _, rfl, rfl, rfl, WkO.rfl⟩, ?_⟩ | refine HeapOK.acc rfl rfl ?_ | refine HeapOK.es rfl rfl ?_)) rfl rfl ?_
    refine M.go rfl ?_
    refine M.decC (s := 2) rfl (fun _ => ?_) (fun hn => absurd hn (by rw [KS_len]; decide))
    exact M.ret (M.go rfl (M.done (finQ.ret [] rfl rfl rfl (by first | exact Wk.rfl | exact Wk.uncap | exact Wk.nil | exact Wk.b1 rfl | exact Wk.t2 Wk.rfl (Wk.b1 rfl)) (by repeat' (first | exact True.intro | refine ⟨⟨_, _, _, rfl, rfl, rfl, WkO.rfl⟩, ?_⟩ | refine HeapOK.acc rfl rfl ?_ | refine HeapOK.es rfl rfl ?_)))))
  · refine M.cond rfl (fun _ => ?_) (fun hn => absurd (by omega) hn)
    refine M.go rfl ?_
    refine M.op trivial (SOp.quoK rfl rfl (by decide)) ?_
    refine M.go rfl ?_
    refine M.op trivial (SOp.remK rfl rfl (by decide)) ?_
    refine M.go rfl ?_
    refine M.freezeO (i := 31) rfl rfl rfl ?_
    refine M.op trivial (SOp.cvBS (l := [97, 97]) rfl rfl) ?_
    refine M.go rfl ?_
    refine M.op trivial (SOp.bin (r := .str (nm 0)) rfl rfl (by show strX .add [102] [97, 97] = some (.str (nm 0)); simp [strX, nm])) ?_
    refine M.go rfl ?_
    refine M.freezeO (i := 34) rfl rfl rfl ?_
    refine M.use trivial (map0 0 rfl (some 1)) [(0, 0), (1, 1), (2, 2)] rfl rfl rfl (by repeat' (first | exact True.intro | refine ⟨⟨_, _, _, rfl, rfl, rfl, WkO.rfl⟩, ?_⟩ | refine HeapOK.acc rfl rfl ?_ | refine HeapOK.es rfl rfl ?_)) rfl rfl ?_
    refine M.go rfl ?_
    refine M.decB rfl (fun hh => absurd hh (by decide)) (fun _ => ?_)
    refine M.go rfl ?_
    refine M.dec rfl (fun hh => absurd hh (by decide)) (fun _ => ?_)
    refine M.go rfl ?_
    refine M.again (XH.ren [(0, 0), (1, 1), (2, 2), (3, 5)] (many3_loop N (by omega) _ (fun h1 => ?_) (N - 1) 0 (by omega)) rfl (by repeat' (first | exact True.intro | refine ⟨⟨_, _, rfl, rfl, Wk.rfl⟩, ?_⟩ | refine ⟨⟨_, _, accV_ren rfl, rfl, Wk.rfl⟩, ?_⟩ | refine ⟨⟨_, _, accV_ren rfl, rfl, Wk.acc0⟩, ?_⟩ | refine ⟨⟨_, _, rfl, rfl, Wk.uncap⟩, ?_⟩ | refine ⟨⟨_, _, rfl, rfl, Wk.nil⟩, ?_⟩)) (by repeat' (first | exact True.intro | refine ⟨⟨_, _, _, rfl, rfl, rfl, WkO.rfl⟩, ?_⟩ | refine HeapOK.acc rfl rfl ?_ | refine HeapOK.es rfl rfl ?_)))
    refine M.q (M.go rfl (M.done (M.q (M.go rfl ?_))))
    refine M.use trivial (names_spec (hMs N) kB 1 _ (Fm (min N 64)) (min N 64) rfl rfl (Fm_ok _) (Fm_nok _ (by omega))) [(0, 0), (1, 1), (2, 2), (3, 3)] rfl rfl rfl (by repeat' (first | exact True.intro | refine ⟨⟨_, _, _, rfl, rfl, rfl, WkO.rfl⟩, ?_⟩ | refine HeapOK.acc rfl rfl ?_ | refine HeapOK.es rfl rfl ?_)) rfl rfl ?_
    refine M.go rfl ?_
    refine M.decC (s := 2) rfl (fun _ => ?_) (fun hn => absurd hn ?_)
    · exact M.ret (M.go rfl (M.done (finQ.ret [] rfl rfl rfl (by first | exact Wk.rfl | exact Wk.uncap | exact Wk.nil | exact Wk.b1 rfl | exact Wk.t2 Wk.rfl (Wk.b1 rfl)) (by repeat' (first | exact True.intro | refine ⟨⟨_, _, _, rfl, rfl, rfl, WkO.rfl⟩, ?_⟩ | refine HeapOK.acc rfl rfl ?_ | refine HeapOK.es rfl rfl ?_)))))
    · rw [KS_len, Fm_len]
      simp only [Bool.not_eq_false]
      refine decide_eq_true ?_
      unfold minI
      split <;> omega
theorem DiskMany_law {p0 : PC} (h0 : Is (.int .i64) p0) : CallS Try.prog base 9 [xvP p0] ⟨[], 0⟩ (.c (.p (.bool true))) ⟨[], 0⟩ := by
  obtain ⟨n, rfl, -⟩ := h0.i64
  exact DiskMany_spec n
end Go.Proofs.Ytjlfojgacnphmaa

namespace Go.Proofs.Ytjlfojgacnphmaa
open Go.RowKit Sim Go Sym
set_option maxRecDepth 100000
set_option linter.unusedVariables false
set_option linter.unusedSimpArgs false
variable {base : Nat}
noncomputable def lBcO : {F : LF // lowerF Try.prog 67 = some F} := ⟨_, rfl⟩
theorem bclO_spec (x : PC) (el : List PC) (hl : el.length ≤ 1000000000) : CallS Try.prog base 67 [.c (.acc 0 1 (x :: el))] ⟨[(0, some (.els 1 (x :: el)))], 1⟩ (.c (.sl 1 0 (x :: el).length 1 none)) ⟨[(1, some (.els 1 (x :: el))), (0, some (.els 1 (x :: el)))], 2⟩ := by
  refine CallS.of noNG lBcO.2 rfl (M.start ?_)
  refine M.wk (i := 0) (v' := .c (.sl 0 0 (x :: el).length 1 none)) rfl (Wk.of rfl) (M.go rfl ?_)
  refine M.op trivial (SOp.appF (ex := []) (el := x :: el) rfl rfl rfl (by simp) rfl (.own rfl rfl) (by simp) (by simp; omega)) ?_
  refine M.go rfl ?_
  rw [List.length_nil, Nat.zero_add, List.nil_append]
  exact M.ret (M.go rfl (M.done (finQ.ret [(0, 0), (1, 2)] rfl rfl rfl (by first | exact Wk.rfl | exact Wk.uncap | exact Wk.nil | exact Wk.b1 rfl | exact Wk.t2 Wk.rfl (Wk.b1 rfl)) (by repeat' (first | exact True.intro | refine ⟨⟨_, _, _, rfl, rfl, rfl, WkO.rfl⟩, ?_⟩ | refine HeapOK.acc rfl rfl ?_ | refine HeapOK.es rfl rfl ?_)))))
noncomputable def lWby : {F : LF // lowerF Try.prog 102 = some F} := ⟨_, rfl⟩
def hWy (x : Int) (bs : List Int) : HS := ⟨[(2, some (.els 1 (u8P (x :: bs)))), (1, some (.els 1 (u8P (x :: bs)))), (0, some (.row [.acc 1 1 (u8P (x :: bs))] true))], 3⟩
theorem wbytesO_spec (x : Int) (bs : List Int) (hl : bs.length ≤ 1000000) : CallS Try.prog base 102 [.c (.ptr 0 0)] (hW 1 (x :: bs)) (.c (.sl 2 0 (u8P (x :: bs)).length 1 none)) (hWy x bs) := by
  refine CallS.of noNG lWby.2 rfl (M.start (M.go rfl ?_))
  refine M.use trivial (bclO_spec (.int .u8 x) (u8P bs) (by rw [u8P_len]; omega)) [(0, 1)] rfl rfl rfl (by repeat' (first | exact True.intro | refine ⟨⟨_, _, _, rfl, rfl, rfl, WkO.rfl⟩, ?_⟩ | refine HeapOK.acc rfl rfl ?_ | refine HeapOK.es rfl rfl ?_)) rfl rfl ?_
  refine M.go rfl ?_
  exact M.ret (M.go rfl (M.done (finQ.ret [(0, 0), (1, 1), (2, 2)] rfl rfl rfl (by first | exact Wk.rfl | exact Wk.uncap | exact Wk.nil | exact Wk.b1 rfl | exact Wk.t2 Wk.rfl (Wk.b1 rfl)) (by repeat' (first | exact True.intro | refine ⟨⟨_, _, _, rfl, rfl, rfl, WkO.rfl⟩, ?_⟩ | refine HeapOK.acc rfl rfl ?_ | refine HeapOK.es rfl rfl ?_)))))
noncomputable def lWse : {F : LF // lowerF Try.prog 64 = some F} := ⟨_, rfl⟩
def recB (n : Int) (b : List Int) : List Int := numB n ++ b
theorem wseal_spec (n : Int) (hn : InI64 n) (z : Bool) (b : List Int) (c : Option Nat) (hB : Bytes b) (hl : (recB n b).length ≤ 65536) : CallS Try.prog base 64 [.c (.p (.int .i64 n)), .c (.p (.tz z 1 (u8P b) c))] ⟨[], 0⟩ (.c (.p (.tz false 1 (u8P (sealB (recB n b))) none))) ⟨[], 0⟩ := by
  have hne : numB n ≠ [] := by intro e; have := numB_pos n; rw [e] at this; simp at this
  have hlb : (u8P b).length = b.length := u8P_len b
  have hnl : (numB n).length + b.length ≤ 65536 := by simpa [recB] using hl
  have hBr : Bytes (recB n b) := by
    intro y hy
    rcases List.mem_append.1 hy with h | h
    · exact numB_bytes n y h
    · exact hB y h
  refine CallS.of noNG lWse.2 rfl (M.start (M.go rfl ?_))
  refine M.shO (Sh.wkH (b0 := 0) (o' := .row [.p (.tz true 1 [] none)] true) rfl rfl (WkO.row ⟨Wk.nil, trivial⟩) Sh.refl) ?_
  refine M.use trivial (wnum0_spec n hn) [(0, 0)] rfl rfl rfl (by repeat' (first | exact True.intro | refine ⟨⟨_, _, _, rfl, rfl, rfl, WkO.rfl⟩, ?_⟩ | refine HeapOK.acc rfl rfl ?_ | refine HeapOK.es rfl rfl ?_)) rfl rfl ?_
  refine M.go rfl ?_
  have hnp := numB_pos n
  have hBr' := hBr
  unfold recB at hBr' hl
  have S0 := fun (h : (numB n ++ b).length ≤ 65536) => sealS_yes (base := base) false none (numB n ++ b) hBr' h
  have hgoal : sealB (recB n b) = sealB (numB n ++ b) := rfl
  rw [hgoal]
  generalize hN : numB n = N at *
  cases N with
  | nil => simp at hnp
  | cons y N =>
  refine M.use trivial (wbytesO_spec y N (by simp at hnl; omega)) [(0, 0), (1, 1)] rfl rfl rfl (by repeat' (first | exact True.intro | refine ⟨⟨_, _, _, rfl, rfl, rfl, WkO.rfl⟩, ?_⟩ | refine HeapOK.acc rfl rfl ?_ | refine HeapOK.es rfl rfl ?_)) rfl rfl ?_
  refine M.go rfl ?_
  by_cases h0 : b = []
  · subst h0
    refine M.op trivial (SOp.app0 rfl rfl .tz (.inl ⟨_, _, _, _, _, rfl⟩)) ?_
    refine M.freezeO (i := 14) (el := u8P (y :: N)) rfl rfl rfl ?_
    have S := S0 hl
    rw [List.append_nil] at S ⊢
    refine M.use0 trivial S rfl rfl rfl ?_
    refine M.go rfl ?_
    exact M.ret (M.go rfl (M.done (finQ.ret [] rfl rfl rfl (by first | exact Wk.rfl | exact Wk.uncap | exact Wk.nil | exact Wk.b1 rfl | exact Wk.t2 Wk.rfl (Wk.b1 rfl)) (by repeat' (first | exact True.intro | refine ⟨⟨_, _, _, rfl, rfl, rfl, WkO.rfl⟩, ?_⟩ | refine HeapOK.acc rfl rfl ?_ | refine HeapOK.es rfl rfl ?_)))))
  · have h1 : u8P b ≠ [] := by simpa [u8P] using h0
    refine M.op trivial (SOp.appO (ex := u8P (y :: N)) rfl rfl rfl rfl .tz h1 (by rw [u8P_len, hlb]; omega)) ?_
    rw [← u8P_app]
    refine M.freezeO (i := 14) (el := u8P ((y :: N) ++ b)) rfl rfl (by rw [u8P_app, List.length_append]) ?_
    refine M.use0 trivial (S0 hl) rfl rfl rfl ?_
    refine M.go rfl ?_
    exact M.ret (M.go rfl (M.done (finQ.ret [] rfl rfl rfl (by first | exact Wk.rfl | exact Wk.uncap | exact Wk.nil | exact Wk.b1 rfl | exact Wk.t2 Wk.rfl (Wk.b1 rfl)) (by repeat' (first | exact True.intro | refine ⟨⟨_, _, _, rfl, rfl, rfl, WkO.rfl⟩, ?_⟩ | refine HeapOK.acc rfl rfl ?_ | refine HeapOK.es rfl rfl ?_)))))
end Go.Proofs.Ytjlfojgacnphmaa

namespace Go.Proofs.Ytjlfojgacnphmaa
open Go.RowKit Sim Go Sym
set_option maxRecDepth 100000
set_option linter.unusedVariables false
set_option linter.unusedSimpArgs false
variable {base : Nat}
def hL00 (room first en : Int) (L : FS) (lc : Nat) (F : FS) (c : Nat) : HS := ⟨[(3, some (fM F c)), (2, some (fM L lc)), (1, some (.row [.p (.int .i64 room), .mp 2, .mp 3, .p (.tz true 5 [] none)] true)), (0, some (.row [.ptr 1 0, .p (.int .i64 first), .p (.tz true 1 [] none), .p (.tz true 1 [] none), .p (.int .i64 en)] true))], 4⟩
def hL01 (a : Nat) (room first en : Int) (L : FS) (lc : Nat) (F : FS) (c : Nat) (x : PC) (X : List PC) (y : PC) (Y : List PC) : HS := ⟨[(a + 1, some (.els 1 (y :: Y))), (a, some (.els 1 (x :: X))), (3, some (fM F c)), (2, some (fM L lc)), (1, some (.row [.p (.int .i64 room), .mp 2, .mp 3, .p (.tz true 5 [] none)] true)), (0, some (.row [.ptr 1 0, .p (.int .i64 first), .acc a 1 (x :: X), .acc (a + 1) 1 (y :: Y), .p (.int .i64 en)] true))], a + 2⟩
def hL10 (b : Nat) (room first en : Int) (L : FS) (lc : Nat) (F : FS) (c : Nat) (w : PC) (W : List PC) : HS := ⟨[(b, some (.els 5 (w :: W))), (3, some (fM F c)), (2, some (fM L lc)), (1, some (.row [.p (.int .i64 room), .mp 2, .mp 3, .acc b 5 (w :: W)] true)), (0, some (.row [.ptr 1 0, .p (.int .i64 first), .p (.tz true 1 [] none), .p (.tz true 1 [] none), .p (.int .i64 en)] true))], b + 1⟩
def hL11 (b a : Nat) (room first en : Int) (L : FS) (lc : Nat) (F : FS) (c : Nat) (w : PC) (W : List PC) (x : PC) (X : List PC) (y : PC) (Y : List PC) : HS := ⟨[(a + 1, some (.els 1 (y :: Y))), (a, some (.els 1 (x :: X))), (b, some (.els 5 (w :: W))), (3, some (fM F c)), (2, some (fM L lc)), (1, some (.row [.p (.int .i64 room), .mp 2, .mp 3, .acc b 5 (w :: W)] true)), (0, some (.row [.ptr 1 0, .p (.int .i64 first), .acc a 1 (x :: X), .acc (a + 1) 1 (y :: Y), .p (.int .i64 en)] true))], a + 2⟩
noncomputable def lAdd : {F : LF // lowerF Try.prog 62 = some F} := ⟨_, rfl⟩
theorem add00_spec (room first en : Int) (L : FS) (lc : Nat) (F : FS) (c : Nat) (n : Int) (z : Bool) (b : List Int) (cb : Option Nat) (size : Int) (hb : b.length ≤ 1000000) (he : 0 ≤ en ∧ en ≤ 1000000000) (hs : 0 ≤ size ∧ size ≤ 1000000000) : CallS Try.prog base 62 [.c (.ptr 0 0), .c (.p (.int .i64 n)), .c (.p (.tz z 1 (u8P b) cb)), .c (.p (.int .i64 size))] (hL00 room (first) (en) L lc F c) (.tup []) (hL01 4 room (n) (en + size) L lc F c (fP z b none) [] (.int .i64 en) []) := by
  refine CallS.of noNG lAdd.2 rfl (M.start (M.go rfl ?_))
  refine M.cond rfl (fun _ => ?_) (fun hn => absurd (by simp) hn)
  refine M.go rfl ?_
  refine M.regG rfl (MN.go rfl ?_)
  refine MN.use0 (by first | exact True.intro | exact rfl) (bcl_spec z (u8P b) cb (by rw [u8P_len]; omega)) rfl rfl rfl (MN.go rfl ?_)
  refine MN.op rfl (by first | exact True.intro | exact rfl) (SOp.appN rfl rfl (.own rfl rfl) (by simp) (by simp)) (MN.go rfl ?_)
  refine MN.op rfl (by first | exact True.intro | exact rfl) (SOp.appN rfl rfl (.own rfl rfl) (by simp) (by simp)) (MN.go rfl ?_)
  refine MN.nil mixed (Fnl.nodup rfl) rfl ⟨⟨stepX_ok rfl, stepX_ok rfl, trivial⟩, ⟨stepX_ok rfl, stepX_ok rfl, stepX_ok rfl, trivial⟩, ⟨stepX_ok rfl, stepX_ok rfl, stepX_ok rfl, trivial⟩, trivial⟩ (M.go rfl ?_)
  rw [wr64 (n := en + size) (by omega) (by omega)]
  exact M.done (finQ.normal [(0, 0), (1, 1), (2, 2), (3, 3), (4, 30), (5, 31)] rfl rfl rfl Wk.rfl ⟨⟨_, _, _, rfl, rfl, rfl, WkO.rfl⟩, ⟨_, _, _, rfl, rfl, rfl, WkO.rfl⟩, ⟨_, _, _, rfl, rfl, rfl, WkO.rfl⟩, ⟨_, _, _, rfl, rfl, rfl, WkO.rfl⟩, ⟨_, _, _, rfl, rfl, rfl, WkO.rfl⟩, ⟨_, _, _, rfl, rfl, rfl, WkO.row ⟨Wk.rfl, Wk.rfl, by first | exact Wk.rfl | exact accRow (by simp) 1 _, by first | exact Wk.rfl | exact accRow (by simp) 1 _, Wk.rfl, trivial⟩⟩, trivial⟩)
theorem add01_spec (room first en : Int) (L : FS) (lc : Nat) (F : FS) (c : Nat) (x : PC) (X : List PC) (y : PC) (Y : List PC) (n : Int) (z : Bool) (b : List Int) (cb : Option Nat) (size : Int) (hX : X.length ≤ 100000) (hY : Y.length ≤ 100000) (hb : b.length ≤ 1000000) (he : 0 ≤ en ∧ en ≤ 1000000000) (hs : 0 ≤ size ∧ size ≤ 1000000000) : CallS Try.prog base 62 [.c (.ptr 0 0), .c (.p (.int .i64 n)), .c (.p (.tz z 1 (u8P b) cb)), .c (.p (.int .i64 size))] (hL01 4 room (first) (en) L lc F c x X y Y) (.tup []) (hL01 6 room (first) (en + size) L lc F c x (X ++ [fP z b none]) y (Y ++ [.int .i64 en])) := by
  refine CallS.of noNG lAdd.2 rfl (M.start (M.go rfl ?_))
  refine M.cond rfl (fun hn => absurd hn (by simp; omega)) (fun _ => ?_)
  refine M.go rfl ?_
  refine M.regG rfl (MN.go rfl ?_)
  refine MN.use0 (by first | exact True.intro | exact rfl) (bcl_spec z (u8P b) cb (by rw [u8P_len]; omega)) rfl rfl rfl (MN.go rfl ?_)
  refine MN.op rfl (by first | exact True.intro | exact rfl) (SOp.appA rfl rfl rfl (.own rfl rfl) (by simp) (by simp; omega)) (MN.go rfl ?_)
  refine MN.op rfl (by first | exact True.intro | exact rfl) (SOp.appA rfl rfl rfl (.own rfl rfl) (by simp) (by simp; omega)) (MN.go rfl ?_)
  refine MN.nil mixed (Fnl.nodup rfl) rfl ⟨⟨stepX_ok rfl, stepX_ok rfl, trivial⟩, ⟨stepX_ok rfl, stepX_ok rfl, stepX_ok rfl, trivial⟩, ⟨stepX_ok rfl, stepX_ok rfl, stepX_ok rfl, trivial⟩, trivial⟩ (M.go rfl ?_)
  rw [wr64 (n := en + size) (by omega) (by omega)]
  exact M.done (finQ.normal [(0, 0), (1, 1), (2, 2), (3, 3), (4, 4), (5, 5), (6, 32), (7, 33)] rfl rfl rfl Wk.rfl ⟨⟨_, _, _, rfl, rfl, rfl, WkO.rfl⟩, ⟨_, _, _, rfl, rfl, rfl, WkO.rfl⟩, ⟨_, _, _, rfl, rfl, rfl, WkO.rfl⟩, ⟨_, _, _, rfl, rfl, rfl, WkO.rfl⟩, ⟨_, _, _, rfl, rfl, rfl, WkO.rfl⟩, ⟨_, _, _, rfl, rfl, rfl, WkO.row ⟨Wk.rfl, Wk.rfl, by first | exact Wk.rfl | exact accRow (by simp) 1 _, by first | exact Wk.rfl | exact accRow (by simp) 1 _, Wk.rfl, trivial⟩⟩, trivial⟩)
theorem add10_spec (room first en : Int) (L : FS) (lc : Nat) (F : FS) (c : Nat) (w : PC) (W : List PC) (n : Int) (z : Bool) (b : List Int) (cb : Option Nat) (size : Int) (hb : b.length ≤ 1000000) (he : 0 ≤ en ∧ en ≤ 1000000000) (hs : 0 ≤ size ∧ size ≤ 1000000000) : CallS Try.prog base 62 [.c (.ptr 0 0), .c (.p (.int .i64 n)), .c (.p (.tz z 1 (u8P b) cb)), .c (.p (.int .i64 size))] (hL10 4 room (first) (en) L lc F c w W) (.tup []) (hL11 4 5 room (n) (en + size) L lc F c w W (fP z b none) [] (.int .i64 en) []) := by
  refine CallS.of noNG lAdd.2 rfl (M.start (M.go rfl ?_))
  refine M.cond rfl (fun _ => ?_) (fun hn => absurd (by simp) hn)
  refine M.go rfl ?_
  refine M.regG rfl (MN.go rfl ?_)
  refine MN.use0 (by first | exact True.intro | exact rfl) (bcl_spec z (u8P b) cb (by rw [u8P_len]; omega)) rfl rfl rfl (MN.go rfl ?_)
  refine MN.op rfl (by first | exact True.intro | exact rfl) (SOp.appN rfl rfl (.own rfl rfl) (by simp) (by simp)) (MN.go rfl ?_)
  refine MN.op rfl (by first | exact True.intro | exact rfl) (SOp.appN rfl rfl (.own rfl rfl) (by simp) (by simp)) (MN.go rfl ?_)
  refine MN.nil mixed (Fnl.nodup rfl) rfl ⟨⟨stepX_ok rfl, stepX_ok rfl, trivial⟩, ⟨stepX_ok rfl, stepX_ok rfl, stepX_ok rfl, trivial⟩, ⟨stepX_ok rfl, stepX_ok rfl, stepX_ok rfl, trivial⟩, trivial⟩ (M.go rfl ?_)
  rw [wr64 (n := en + size) (by omega) (by omega)]
  exact M.done (finQ.normal [(0, 0), (1, 1), (2, 2), (3, 3), (4, 4), (5, 31), (6, 32)] rfl rfl rfl Wk.rfl ⟨⟨_, _, _, rfl, rfl, rfl, WkO.rfl⟩, ⟨_, _, _, rfl, rfl, rfl, WkO.rfl⟩, ⟨_, _, _, rfl, rfl, rfl, WkO.rfl⟩, ⟨_, _, _, rfl, rfl, rfl, WkO.rfl⟩, ⟨_, _, _, rfl, rfl, rfl, WkO.rfl⟩, ⟨_, _, _, rfl, rfl, rfl, WkO.rfl⟩, ⟨_, _, _, rfl, rfl, rfl, WkO.row ⟨Wk.rfl, Wk.rfl, by first | exact Wk.rfl | exact accRow (by simp) 1 _, by first | exact Wk.rfl | exact accRow (by simp) 1 _, Wk.rfl, trivial⟩⟩, trivial⟩)
theorem add11_spec (room first en : Int) (L : FS) (lc : Nat) (F : FS) (c : Nat) (w : PC) (W : List PC) (x : PC) (X : List PC) (y : PC) (Y : List PC) (n : Int) (z : Bool) (b : List Int) (cb : Option Nat) (size : Int) (hX : X.length ≤ 100000) (hY : Y.length ≤ 100000) (hb : b.length ≤ 1000000) (he : 0 ≤ en ∧ en ≤ 1000000000) (hs : 0 ≤ size ∧ size ≤ 1000000000) : CallS Try.prog base 62 [.c (.ptr 0 0), .c (.p (.int .i64 n)), .c (.p (.tz z 1 (u8P b) cb)), .c (.p (.int .i64 size))] (hL11 4 5 room (first) (en) L lc F c w W x X y Y) (.tup []) (hL11 4 7 room (first) (en + size) L lc F c w W x (X ++ [fP z b none]) y (Y ++ [.int .i64 en])) := by
  refine CallS.of noNG lAdd.2 rfl (M.start (M.go rfl ?_))
  refine M.cond rfl (fun hn => absurd hn (by simp; omega)) (fun _ => ?_)
  refine M.go rfl ?_
  refine M.regG rfl (MN.go rfl ?_)
  refine MN.use0 (by first | exact True.intro | exact rfl) (bcl_spec z (u8P b) cb (by rw [u8P_len]; omega)) rfl rfl rfl (MN.go rfl ?_)
  refine MN.op rfl (by first | exact True.intro | exact rfl) (SOp.appA rfl rfl rfl (.own rfl rfl) (by simp) (by simp; omega)) (MN.go rfl ?_)
  refine MN.op rfl (by first | exact True.intro | exact rfl) (SOp.appA rfl rfl rfl (.own rfl rfl) (by simp) (by simp; omega)) (MN.go rfl ?_)
  refine MN.nil mixed (Fnl.nodup rfl) rfl ⟨⟨stepX_ok rfl, stepX_ok rfl, trivial⟩, ⟨stepX_ok rfl, stepX_ok rfl, stepX_ok rfl, trivial⟩, ⟨stepX_ok rfl, stepX_ok rfl, stepX_ok rfl, trivial⟩, trivial⟩ (M.go rfl ?_)
  rw [wr64 (n := en + size) (by omega) (by omega)]
  exact M.done (finQ.normal [(0, 0), (1, 1), (2, 2), (3, 3), (4, 4), (5, 5), (6, 6), (7, 33), (8, 34)] rfl rfl rfl Wk.rfl ⟨⟨_, _, _, rfl, rfl, rfl, WkO.rfl⟩, ⟨_, _, _, rfl, rfl, rfl, WkO.rfl⟩, ⟨_, _, _, rfl, rfl, rfl, WkO.rfl⟩, ⟨_, _, _, rfl, rfl, rfl, WkO.rfl⟩, ⟨_, _, _, rfl, rfl, rfl, WkO.rfl⟩, ⟨_, _, _, rfl, rfl, rfl, WkO.rfl⟩, ⟨_, _, _, rfl, rfl, rfl, WkO.row ⟨Wk.rfl, Wk.rfl, by first | exact Wk.rfl | exact accRow (by simp) 1 _, by first | exact Wk.rfl | exact accRow (by simp) 1 _, Wk.rfl, trivial⟩⟩, trivial⟩)
end Go.Proofs.Ytjlfojgacnphmaa

namespace Go.Proofs.Ytjlfojgacnphmaa
open Go.RowKit Sim Go Sym
set_option maxRecDepth 100000
set_option linter.unusedVariables false
set_option linter.unusedSimpArgs false
variable {base : Nat}
theorem may_w : CallS Try.prog base 70 [.c (.p (.str [119]))] ⟨[], 0⟩ (.c (.p (.bool true))) ⟨[], 0⟩ := CallS.reck (m := 200) (h' := noMem) mixed noNG (by kernel_rfl)
noncomputable def lWla : {F : LF // lowerF Try.prog 24 = some F} := ⟨_, rfl⟩
noncomputable def lWap : {F : LF // lowerF Try.prog 21 = some F} := ⟨_, rfl⟩
theorem last00_spec (room first en : Int) (L : FS) (lc : Nat) (F : FS) (c : Nat) : CallS Try.prog base 24 [.c (.ptr 0 0)] (hL00 room (first) (en) L lc F c) (.c (.p (.int .i64 0))) (hL00 room (first) (en) L lc F c) := by
  refine CallS.of noNG lWla.2 rfl (M.start (M.go rfl ?_))
  refine M.cond rfl (fun _ => ?_) (fun hn => absurd (by simp) hn)
  refine M.go rfl ?_
  exact M.ret (M.go rfl (M.done (finQ.ret [(0, 0), (1, 1), (2, 2), (3, 3)] rfl rfl rfl (by first | exact Wk.rfl | exact Wk.uncap | exact Wk.nil | exact Wk.b1 rfl | exact Wk.t2 Wk.rfl (Wk.b1 rfl)) (by repeat' (first | exact True.intro | refine ⟨⟨_, _, _, rfl, rfl, rfl, WkO.rfl⟩, ?_⟩ | refine HeapOK.acc rfl rfl ?_ | refine HeapOK.es rfl rfl ?_)))))
theorem last01_spec (room first en : Int) (L : FS) (lc : Nat) (F : FS) (c : Nat) (x : PC) (X : List PC) (y : PC) (Y : List PC) (hX : X.length ≤ 100000) (hf : 0 ≤ first ∧ first ≤ 2000000000000000) : CallS Try.prog base 24 [.c (.ptr 0 0)] (hL01 4 room (first) (en) L lc F c x X y Y) (.c (.p (.int .i64 (first + X.length)))) (hL01 4 room (first) (en) L lc F c x X y Y) := by
  refine CallS.of noNG lWla.2 rfl (M.start (M.go rfl ?_))
  refine M.cond rfl (fun hn => absurd hn (by simp; omega)) (fun _ => ?_)
  refine M.go rfl ?_
  refine M.regD (MD.go rfl ?_)
  refine MD.nil mixed (Fnl.nodup rfl) (M.go rfl ?_)
  rw [show ((x :: X).length : Int) = (X.length : Int) + 1 by simp, wr64 (n := first + ((X.length : Int) + 1)) (by omega) (by omega), show first + ((X.length : Int) + 1) - 1 = first + X.length by omega, wr64 (n := first + (X.length : Int)) (by omega) (by omega)]
  exact M.ret (M.go rfl (M.done (finQ.ret [(0, 0), (1, 1), (2, 2), (3, 3), (4, 4), (5, 5)] rfl rfl rfl (by first | exact Wk.rfl | exact Wk.uncap | exact Wk.nil | exact Wk.b1 rfl | exact Wk.t2 Wk.rfl (Wk.b1 rfl)) (by repeat' (first | exact True.intro | refine ⟨⟨_, _, _, rfl, rfl, rfl, WkO.rfl⟩, ?_⟩ | refine HeapOK.acc rfl rfl ?_ | refine HeapOK.es rfl rfl ?_)))))
theorem last10_spec (room first en : Int) (L : FS) (lc : Nat) (F : FS) (c : Nat) (w : PC) (W : List PC) : CallS Try.prog base 24 [.c (.ptr 0 0)] (hL10 4 room (first) (en) L lc F c w W) (.c (.p (.int .i64 0))) (hL10 4 room (first) (en) L lc F c w W) := by
  refine CallS.of noNG lWla.2 rfl (M.start (M.go rfl ?_))
  refine M.cond rfl (fun _ => ?_) (fun hn => absurd (by simp) hn)
  refine M.go rfl ?_
  exact M.ret (M.go rfl (M.done (finQ.ret [(0, 0), (1, 1), (2, 2), (3, 3), (4, 4)] rfl rfl rfl (by first | exact Wk.rfl | exact Wk.uncap | exact Wk.nil | exact Wk.b1 rfl | exact Wk.t2 Wk.rfl (Wk.b1 rfl)) (by repeat' (first | exact True.intro | refine ⟨⟨_, _, _, rfl, rfl, rfl, WkO.rfl⟩, ?_⟩ | refine HeapOK.acc rfl rfl ?_ | refine HeapOK.es rfl rfl ?_)))))
theorem last11_spec (room first en : Int) (L : FS) (lc : Nat) (F : FS) (c : Nat) (w : PC) (W : List PC) (x : PC) (X : List PC) (y : PC) (Y : List PC) (hX : X.length ≤ 100000) (hf : 0 ≤ first ∧ first ≤ 2000000000000000) : CallS Try.prog base 24 [.c (.ptr 0 0)] (hL11 4 5 room (first) (en) L lc F c w W x X y Y) (.c (.p (.int .i64 (first + X.length)))) (hL11 4 5 room (first) (en) L lc F c w W x X y Y) := by
  refine CallS.of noNG lWla.2 rfl (M.start (M.go rfl ?_))
  refine M.cond rfl (fun hn => absurd hn (by simp; omega)) (fun _ => ?_)
  refine M.go rfl ?_
  refine M.regD (MD.go rfl ?_)
  refine MD.nil mixed (Fnl.nodup rfl) (M.go rfl ?_)
  rw [show ((x :: X).length : Int) = (X.length : Int) + 1 by simp, wr64 (n := first + ((X.length : Int) + 1)) (by omega) (by omega), show first + ((X.length : Int) + 1) - 1 = first + X.length by omega, wr64 (n := first + (X.length : Int)) (by omega) (by omega)]
  exact M.ret (M.go rfl (M.done (finQ.ret [(0, 0), (1, 1), (2, 2), (3, 3), (4, 4), (5, 5), (6, 6)] rfl rfl rfl (by first | exact Wk.rfl | exact Wk.uncap | exact Wk.nil | exact Wk.b1 rfl | exact Wk.t2 Wk.rfl (Wk.b1 rfl)) (by repeat' (first | exact True.intro | refine ⟨⟨_, _, _, rfl, rfl, rfl, WkO.rfl⟩, ?_⟩ | refine HeapOK.acc rfl rfl ?_ | refine HeapOK.es rfl rfl ?_)))))
theorem append0_room (room : Int) (L : FS) (lc : Nat) (F : FS) (c : Nat) (name : List Nat) (zb : Bool) (b : List Int) (cb : Option Nat) (hm : CallS Try.prog base 70 [.c (.p (.str name))] ⟨[], 0⟩ (.c (.p (.bool true))) ⟨[], 0⟩) (hF : FOK F c) (hu : usedN F ≤ 100000000) (hr : -100000000000 ≤ room ∧ room ≤ 100000000000) (hb : b.length ≤ 100000000) (hroom : room < ((usedN F + b.length : Nat) : Int)) :
    CallS Try.prog base 33 [.c (.ptr 0 0), .c (.p (.str name)), .c (.p (.tz zb 1 (u8P b) cb))] (hD0 room L lc F c) (.c (.p (.int .i64 2))) (hD0 room L lc F c) := by
  have hlb : (u8P b).length = b.length := u8P_len b
  refine CallS.of noNG lDAp.2 rfl (M.start (M.go rfl ?_))
  refine M.use0 trivial hm rfl rfl rfl ?_
  refine M.go rfl ?_
  refine M.regF (MF.go rfl ?_)
  refine MF.use trivial (used0_spec room L lc F c hF (by omega)) [(0, 0), (1, 1), (2, 2)] rfl rfl rfl (by repeat' (first | exact True.intro | refine ⟨⟨_, _, _, rfl, rfl, rfl, WkO.rfl⟩, ?_⟩ | refine HeapOK.acc rfl rfl ?_ | refine HeapOK.es rfl rfl ?_)) rfl rfl ?_
  refine MF.go rfl ?_
  rw [hlb]
  refine MF.nil mixed (Fnl.nodup rfl) rfl ⟨⟨stepX_ok (by rw [← hlb]; rfl), trivial⟩, ⟨stepX_ok rfl, trivial⟩, trivial⟩ (M.go rfl ?_)
  rw [wr64 (n := room - (usedN F : Int)) (by omega) (by omega)]
  refine M.cond rfl (fun _ => ?_) (fun hn => absurd (by omega) hn)
  refine M.go rfl ?_
  refine M.decC (s := 14) rfl (fun _ => ?_) (fun hn => absurd hn (by simp; omega))
  refine M.go rfl ?_
  exact M.ret (M.go rfl (M.done (finQ.ret [(0, 0), (1, 1), (2, 2)] rfl rfl rfl (by first | exact Wk.rfl | exact Wk.uncap | exact Wk.nil | exact Wk.b1 rfl | exact Wk.t2 Wk.rfl (Wk.b1 rfl)) (by repeat' (first | exact True.intro | refine ⟨⟨_, _, _, rfl, rfl, rfl, WkO.rfl⟩, ?_⟩ | refine HeapOK.acc rfl rfl ?_ | refine HeapOK.es rfl rfl ?_)))))
theorem append1_room (room : Int) (L : FS) (lc : Nat) (F : FS) (c : Nat) (w : PC) (W : List PC) (name : List Nat) (zb : Bool) (b : List Int) (cb : Option Nat) (hm : CallS Try.prog base 70 [.c (.p (.str name))] ⟨[], 0⟩ (.c (.p (.bool true))) ⟨[], 0⟩) (hF : FOK F c) (hu : usedN F ≤ 100000000) (hr : -100000000000 ≤ room ∧ room ≤ 100000000000) (hb : b.length ≤ 100000000) (hroom : room < ((usedN F + b.length : Nat) : Int)) :
    CallS Try.prog base 33 [.c (.ptr 0 0), .c (.p (.str name)), .c (.p (.tz zb 1 (u8P b) cb))] (hD1 3 room L lc F c w W) (.c (.p (.int .i64 2))) (hD1 3 room L lc F c w W) := by
  have hlb : (u8P b).length = b.length := u8P_len b
  refine CallS.of noNG lDAp.2 rfl (M.start (M.go rfl ?_))
  refine M.use0 trivial hm rfl rfl rfl ?_
  refine M.go rfl ?_
  refine M.regF (MF.go rfl ?_)
  refine MF.use trivial (used1_spec room L lc F c w W hF (by omega)) [(0, 0), (1, 1), (2, 2), (3, 3)] rfl rfl rfl (by repeat' (first | exact True.intro | refine ⟨⟨_, _, _, rfl, rfl, rfl, WkO.rfl⟩, ?_⟩ | refine HeapOK.acc rfl rfl ?_ | refine HeapOK.es rfl rfl ?_)) rfl rfl ?_
  refine MF.go rfl ?_
  rw [hlb]
  refine MF.nil mixed (Fnl.nodup rfl) rfl ⟨⟨stepX_ok (by rw [← hlb]; rfl), trivial⟩, ⟨stepX_ok rfl, trivial⟩, trivial⟩ (M.go rfl ?_)
  rw [wr64 (n := room - (usedN F : Int)) (by omega) (by omega)]
  refine M.cond rfl (fun _ => ?_) (fun hn => absurd (by omega) hn)
  refine M.go rfl ?_
  refine M.decC (s := 14) rfl (fun _ => ?_) (fun hn => absurd hn (by simp; omega))
  refine M.go rfl ?_
  exact M.ret (M.go rfl (M.done (finQ.ret [(0, 0), (1, 1), (2, 2), (3, 3)] rfl rfl rfl (by first | exact Wk.rfl | exact Wk.uncap | exact Wk.nil | exact Wk.b1 rfl | exact Wk.t2 Wk.rfl (Wk.b1 rfl)) (by repeat' (first | exact True.intro | refine ⟨⟨_, _, _, rfl, rfl, rfl, WkO.rfl⟩, ?_⟩ | refine HeapOK.acc rfl rfl ?_ | refine HeapOK.es rfl rfl ?_)))))
theorem wappend00_spec (room first en : Int) (L : FS) (lc : Nat) (F : FS) (c : Nat) (n : Int) (hn1 : 1 ≤ n ∧ n ≤ 2000000000000000) (z : Bool) (b : List Int) (cb : Option Nat) (hB : Bytes b) (hb : b.length ≤ 30000) (he : 0 ≤ en ∧ en ≤ 1000000000) (hF : FOK F c) (hr : room ≤ 100000000000) (hroom : ((usedN F + (sealB (recB n b)).length : Nat) : Int) ≤ room) (hfile : (findP [119] F).isSome = true ∨ F.length < 64) (F2 : FS) (c2 : Nat)
    (hdo : CallS Try.prog base 66 [.c (.mp 0), .agg ((chX 0 [119] [] (fP false (sealB (recB n b)) none) 0).map XC.p), .c (.p (.int .i64 (sealB (recB n b)).length))] ⟨[(0, some (fM F c))], 1⟩ (.tup []) ⟨[(0, some (fM F2 c2))], 1⟩) :
    CallS Try.prog base 21 [.c (.ptr 0 0), .c (.p (.int .i64 n)), .c (.p (.tz z 1 (u8P b) cb))] (hL00 room (first) (en) L lc F c) (.c (.p (.int .i64 0))) (hL11 4 5 room n (en + (sealB (recB n b)).length) L lc F2 c2 (.agg (chX 0 [119] [] (fP false (sealB (recB n b)) none) 0)) [] (fP z b none) [] (.int .i64 en) []) := by
  have hlb : (u8P b).length = b.length := u8P_len b
  have hnB := numB_len (n := n) (by omega) (by omega)
  have hrl : (recB n b).length ≤ 65536 := by simp [recB]; omega
  have hsl : (sealB (recB n b)).length = 8 + (recB n b).length := seal_len hrl
  have hsl2 : (sealB (recB n b)).length ≤ 40000 := by rw [hsl]; simp [recB]; omega
  refine CallS.of noNG lWap.2 rfl (M.start (M.go rfl ?_))
  refine M.dec rfl (fun hn => absurd hn (by omega)) (fun _ => ?_)
  refine M.go rfl ?_
  refine M.dec rfl (fun hn => absurd hn (by simp)) (fun _ => ?_)
  refine M.go rfl ?_
  refine M.cond rfl (fun hn => absurd hn (by rw [hlb]; omega)) (fun _ => ?_)
  refine M.go rfl ?_
  refine M.use0 trivial (wseal_spec n ⟨by omega, by omega⟩ z b cb hB hrl) rfl rfl rfl ?_
  refine M.go rfl ?_
  refine M.use trivial (append0_spec room L lc F c [119] false (sealB (recB n b)) none may_w hF hr hroom hfile F2 c2 hdo) [(0, 1), (1, 2), (2, 3)] rfl rfl rfl (by repeat' (first | exact True.intro | refine ⟨⟨_, _, _, rfl, rfl, rfl, WkO.rfl⟩, ?_⟩ | refine HeapOK.acc rfl rfl ?_ | refine HeapOK.es rfl rfl ?_)) rfl rfl ?_
  refine M.go rfl ?_
  refine M.condN rfl (fun hn => absurd rfl hn) (fun _ => ?_)
  refine M.go rfl ?_
  rw [u8P_len]
  refine M.use trivial (add10_spec room first en L lc F2 c2 (.agg (chX 0 [119] [] (fP false (sealB (recB n b)) none) 0)) [] n z b cb ((sealB (recB n b)).length : Int) (by omega) he ⟨by omega, by omega⟩) [(0, 0), (1, 1), (2, 2), (3, 3), (4, 4)] rfl rfl rfl (by repeat' (first | exact True.intro | refine ⟨⟨_, _, _, rfl, rfl, rfl, WkO.rfl⟩, ?_⟩ | refine HeapOK.acc rfl rfl ?_ | refine HeapOK.es rfl rfl ?_)) rfl rfl ?_
  refine M.go rfl ?_
  exact M.ret (M.go rfl (M.done (finQ.ret [(0, 0), (1, 1), (2, 2), (3, 3), (4, 4), (5, 5), (6, 6)] rfl rfl rfl (by first | exact Wk.rfl | exact Wk.uncap | exact Wk.nil | exact Wk.b1 rfl | exact Wk.t2 Wk.rfl (Wk.b1 rfl)) (by repeat' (first | exact True.intro | refine ⟨⟨_, _, _, rfl, rfl, rfl, WkO.rfl⟩, ?_⟩ | refine HeapOK.acc rfl rfl ?_ | refine HeapOK.es rfl rfl ?_)))))
theorem wappend00_full (room first en : Int) (L : FS) (lc : Nat) (F : FS) (c : Nat) (n : Int) (hn1 : 1 ≤ n ∧ n ≤ 2000000000000000) (z : Bool) (b : List Int) (cb : Option Nat) (hB : Bytes b) (hb : b.length ≤ 30000) (hF : FOK F c) (hu : usedN F ≤ 100000000) (hr : -100000000000 ≤ room ∧ room ≤ 100000000000) (hroom : room < ((usedN F + (sealB (recB n b)).length : Nat) : Int)) :
    CallS Try.prog base 21 [.c (.ptr 0 0), .c (.p (.int .i64 n)), .c (.p (.tz z 1 (u8P b) cb))] (hL00 room (first) (en) L lc F c) (.c (.p (.int .i64 2))) (hL00 room (first) (en) L lc F c) := by
  have hlb : (u8P b).length = b.length := u8P_len b
  have hnB := numB_len (n := n) (by omega) (by omega)
  have hrl : (recB n b).length ≤ 65536 := by simp [recB]; omega
  have hsl : (sealB (recB n b)).length = 8 + (recB n b).length := seal_len hrl
  have hsl2 : (sealB (recB n b)).length ≤ 40000 := by rw [hsl]; simp [recB]; omega
  refine CallS.of noNG lWap.2 rfl (M.start (M.go rfl ?_))
  refine M.dec rfl (fun hn => absurd hn (by omega)) (fun _ => ?_)
  refine M.go rfl ?_
  refine M.dec rfl (fun hn => absurd hn (by simp)) (fun _ => ?_)
  refine M.go rfl ?_
  refine M.cond rfl (fun hn => absurd hn (by rw [hlb]; omega)) (fun _ => ?_)
  refine M.go rfl ?_
  refine M.use0 trivial (wseal_spec n ⟨by omega, by omega⟩ z b cb hB hrl) rfl rfl rfl ?_
  refine M.go rfl ?_
  refine M.use trivial (append0_room room L lc F c [119] false (sealB (recB n b)) none may_w hF hu hr (by omega) hroom) [(0, 1), (1, 2), (2, 3)] rfl rfl rfl (by repeat' (first | exact True.intro | refine ⟨⟨_, _, _, rfl, rfl, rfl, WkO.rfl⟩, ?_⟩ | refine HeapOK.acc rfl rfl ?_ | refine HeapOK.es rfl rfl ?_)) rfl rfl ?_
  refine M.go rfl ?_
  refine M.condN rfl (fun _ => ?_) (fun hn => absurd hn (by decide))
  refine M.go rfl ?_
  exact M.ret (M.go rfl (M.done (finQ.ret [(0, 0), (1, 1), (2, 2), (3, 3)] rfl rfl rfl (by first | exact Wk.rfl | exact Wk.uncap | exact Wk.nil | exact Wk.b1 rfl | exact Wk.t2 Wk.rfl (Wk.b1 rfl)) (by repeat' (first | exact True.intro | refine ⟨⟨_, _, _, rfl, rfl, rfl, WkO.rfl⟩, ?_⟩ | refine HeapOK.acc rfl rfl ?_ | refine HeapOK.es rfl rfl ?_)))))
theorem wappend11_spec (room first en : Int) (L : FS) (lc : Nat) (F : FS) (c : Nat) (w : PC) (W : List PC) (x : PC) (X : List PC) (y : PC) (Y : List PC) (hW : W.length ≤ 1000000) (hX : X.length ≤ 100000) (hY : Y.length ≤ 100000) (hf : 0 ≤ first ∧ first ≤ 1000000000000000) (n : Int) (hn1 : 1 ≤ n ∧ n ≤ 2000000000000000) (hnl : n = first + X.length + 1) (z : Bool) (b : List Int) (cb : Option Nat) (hB : Bytes b) (hb : b.length ≤ 30000) (he : 0 ≤ en ∧ en ≤ 1000000000) (hF : FOK F c) (hr : room ≤ 100000000000) (hroom : ((usedN F + (sealB (recB n b)).length : Nat) : Int) ≤ room) (hfile : (findP [119] F).isSome = true ∨ F.length < 64) (F2 : FS) (c2 : Nat)
    (hdo : CallS Try.prog base 66 [.c (.mp 0), .agg ((chX 0 [119] [] (fP false (sealB (recB n b)) none) 0).map XC.p), .c (.p (.int .i64 (sealB (recB n b)).length))] ⟨[(0, some (fM F c))], 1⟩ (.tup []) ⟨[(0, some (fM F2 c2))], 1⟩) :
    CallS Try.prog base 21 [.c (.ptr 0 0), .c (.p (.int .i64 n)), .c (.p (.tz z 1 (u8P b) cb))] (hL11 4 5 room (first) (en) L lc F c w W x X y Y) (.c (.p (.int .i64 0))) (hL11 7 8 room first (en + (sealB (recB n b)).length) L lc F2 c2 w (W ++ [(.agg (chX 0 [119] [] (fP false (sealB (recB n b)) none) 0))]) x (X ++ [fP z b none]) y (Y ++ [.int .i64 en])) := by
  have hlb : (u8P b).length = b.length := u8P_len b
  have hnB := numB_len (n := n) (by omega) (by omega)
  have hrl : (recB n b).length ≤ 65536 := by simp [recB]; omega
  have hsl : (sealB (recB n b)).length = 8 + (recB n b).length := seal_len hrl
  have hsl2 : (sealB (recB n b)).length ≤ 40000 := by rw [hsl]; simp [recB]; omega
  refine CallS.of noNG lWap.2 rfl (M.start (M.go rfl ?_))
  refine M.dec rfl (fun hn => absurd hn (by omega)) (fun _ => ?_)
  refine M.go rfl ?_
  refine M.dec rfl (fun _ => ?_) (fun hn => absurd (by simp) hn)
  refine M.go rfl ?_
  refine M.use (by first | exact True.intro | exact rfl) (last11_spec room first en L lc F c w W x X y Y hX ⟨hf.1, by omega⟩) [(0, 0), (1, 1), (2, 2), (3, 3), (4, 4), (5, 5), (6, 6)] rfl rfl rfl (by repeat' (first | exact True.intro | refine ⟨⟨_, _, _, rfl, rfl, rfl, WkO.rfl⟩, ?_⟩ | refine HeapOK.acc rfl rfl ?_ | refine HeapOK.es rfl rfl ?_)) rfl rfl ?_
  refine M.go rfl ?_
  rw [wr64 (n := first + (X.length : Int) + 1) (by omega) (by omega)]
  refine M.condN rfl (fun hn => absurd hnl hn) (fun _ => ?_)
  refine M.go rfl ?_
  refine M.cond rfl (fun hn => absurd hn (by rw [hlb]; omega)) (fun _ => ?_)
  refine M.go rfl ?_
  refine M.use0 trivial (wseal_spec n ⟨by omega, by omega⟩ z b cb hB hrl) rfl rfl rfl ?_
  refine M.go rfl ?_
  refine M.use trivial (append1_spec room L lc F c w W hW [119] false (sealB (recB n b)) none may_w hF hr hroom hfile F2 c2 hdo) [(0, 1), (1, 2), (2, 3), (3, 4)] rfl rfl rfl (by repeat' (first | exact True.intro | refine ⟨⟨_, _, _, rfl, rfl, rfl, WkO.rfl⟩, ?_⟩ | refine HeapOK.acc rfl rfl ?_ | refine HeapOK.es rfl rfl ?_)) rfl rfl ?_
  refine M.go rfl ?_
  refine M.condN rfl (fun hn => absurd rfl hn) (fun _ => ?_)
  refine M.go rfl ?_
  rw [u8P_len]
  refine M.use trivial (add11_spec room first en L lc F2 c2 w (W ++ [(.agg (chX 0 [119] [] (fP false (sealB (recB n b)) none) 0))]) x X y Y n z b cb ((sealB (recB n b)).length : Int) hX hY (by omega) he ⟨by omega, by omega⟩) [(0, 0), (1, 1), (2, 2), (3, 3), (4, 7), (5, 5), (6, 6)] rfl rfl rfl (by repeat' (first | exact True.intro | refine ⟨⟨_, _, _, rfl, rfl, rfl, WkO.rfl⟩, ?_⟩ | refine HeapOK.acc rfl rfl ?_ | refine HeapOK.es rfl rfl ?_)) rfl rfl ?_
  refine M.go rfl ?_
  exact M.ret (M.go rfl (M.done (finQ.ret [(0, 0), (1, 1), (2, 2), (3, 3), (4, 4), (5, 5), (6, 6), (7, 7), (8, 8), (9, 9)] rfl rfl rfl (by first | exact Wk.rfl | exact Wk.uncap | exact Wk.nil | exact Wk.b1 rfl | exact Wk.t2 Wk.rfl (Wk.b1 rfl)) (by repeat' (first | exact True.intro | refine ⟨⟨_, _, _, rfl, rfl, rfl, WkO.rfl⟩, ?_⟩ | refine HeapOK.acc rfl rfl ?_ | refine HeapOK.es rfl rfl ?_)))))
theorem wappend11_full (room first en : Int) (L : FS) (lc : Nat) (F : FS) (c : Nat) (w : PC) (W : List PC) (x : PC) (X : List PC) (y : PC) (Y : List PC) (hX : X.length ≤ 100000) (hf : 0 ≤ first ∧ first ≤ 1000000000000000) (n : Int) (hn1 : 1 ≤ n ∧ n ≤ 2000000000000000) (hnl : n = first + X.length + 1) (z : Bool) (b : List Int) (cb : Option Nat) (hB : Bytes b) (hb : b.length ≤ 30000) (hF : FOK F c) (hu : usedN F ≤ 100000000) (hr : -100000000000 ≤ room ∧ room ≤ 100000000000) (hroom : room < ((usedN F + (sealB (recB n b)).length : Nat) : Int)) :
    CallS Try.prog base 21 [.c (.ptr 0 0), .c (.p (.int .i64 n)), .c (.p (.tz z 1 (u8P b) cb))] (hL11 4 5 room (first) (en) L lc F c w W x X y Y) (.c (.p (.int .i64 2))) (hL11 4 5 room (first) (en) L lc F c w W x X y Y) := by
  have hlb : (u8P b).length = b.length := u8P_len b
  have hnB := numB_len (n := n) (by omega) (by omega)
  have hrl : (recB n b).length ≤ 65536 := by simp [recB]; omega
  have hsl : (sealB (recB n b)).length = 8 + (recB n b).length := seal_len hrl
  have hsl2 : (sealB (recB n b)).length ≤ 40000 := by rw [hsl]; simp [recB]; omega
  refine CallS.of noNG lWap.2 rfl (M.start (M.go rfl ?_))
  refine M.dec rfl (fun hn => absurd hn (by omega)) (fun _ => ?_)
  refine M.go rfl ?_
  refine M.dec rfl (fun _ => ?_) (fun hn => absurd (by simp) hn)
  refine M.go rfl ?_
  refine M.use (by first | exact True.intro | exact rfl) (last11_spec room first en L lc F c w W x X y Y hX ⟨hf.1, by omega⟩) [(0, 0), (1, 1), (2, 2), (3, 3), (4, 4), (5, 5), (6, 6)] rfl rfl rfl (by repeat' (first | exact True.intro | refine ⟨⟨_, _, _, rfl, rfl, rfl, WkO.rfl⟩, ?_⟩ | refine HeapOK.acc rfl rfl ?_ | refine HeapOK.es rfl rfl ?_)) rfl rfl ?_
  refine M.go rfl ?_
  rw [wr64 (n := first + (X.length : Int) + 1) (by omega) (by omega)]
  refine M.condN rfl (fun hn => absurd hnl hn) (fun _ => ?_)
  refine M.go rfl ?_
  refine M.cond rfl (fun hn => absurd hn (by rw [hlb]; omega)) (fun _ => ?_)
  refine M.go rfl ?_
  refine M.use0 trivial (wseal_spec n ⟨by omega, by omega⟩ z b cb hB hrl) rfl rfl rfl ?_
  refine M.go rfl ?_
  refine M.use trivial (append1_room room L lc F c w W [119] false (sealB (recB n b)) none may_w hF hu hr (by omega) hroom) [(0, 1), (1, 2), (2, 3), (3, 4)] rfl rfl rfl (by repeat' (first | exact True.intro | refine ⟨⟨_, _, _, rfl, rfl, rfl, WkO.rfl⟩, ?_⟩ | refine HeapOK.acc rfl rfl ?_ | refine HeapOK.es rfl rfl ?_)) rfl rfl ?_
  refine M.go rfl ?_
  refine M.condN rfl (fun _ => ?_) (fun hn => absurd hn (by decide))
  refine M.go rfl ?_
  exact M.ret (M.go rfl (M.done (finQ.ret [(0, 0), (1, 1), (2, 2), (3, 3), (4, 4), (5, 5), (6, 6)] rfl rfl rfl (by first | exact Wk.rfl | exact Wk.uncap | exact Wk.nil | exact Wk.b1 rfl | exact Wk.t2 Wk.rfl (Wk.b1 rfl)) (by repeat' (first | exact True.intro | refine ⟨⟨_, _, _, rfl, rfl, rfl, WkO.rfl⟩, ?_⟩ | refine HeapOK.acc rfl rfl ?_ | refine HeapOK.es rfl rfl ?_)))))
end Go.Proofs.Ytjlfojgacnphmaa

namespace Go.Proofs.Ytjlfojgacnphmaa
open Go.RowKit Sim Go Sym
set_option maxRecDepth 100000
set_option linter.unusedVariables false
set_option linter.unusedSimpArgs false
variable {base : Nat}
def flatR : Int → List (List Int) → List Int
  | _, [] => []
  | f, b :: R => sealB (recB f b) ++ flatR (f + 1) R
def recsR : Int → List (List Int) → List (List Int)
  | _, [] => []
  | f, b :: R => recB f b :: recsR (f + 1) R
structure RecOK (f : Int) (R : List (List Int)) : Prop where
  f : 1 ≤ f ∧ f + R.length ≤ 1000000000000000
  l : R.length ≤ 10000
  b : ∀ b ∈ R, Bytes b ∧ b.length ≤ 30000
theorem RecOK.tail {f : Int} {b : List Int} {R : List (List Int)} (h : RecOK f (b :: R)) : RecOK (f + 1) R := ⟨⟨by have := h.f; omega, by have := h.f.2; simp only [List.length_cons] at this; omega⟩, by have := h.l; simp at this; omega, fun c hc => h.b c (by simp [hc])⟩
theorem recB_len {n : Int} {b : List Int} (h1 : 1 ≤ n) (h2 : n ≤ 2000000000000000) (hb : b.length ≤ 30000) : (recB n b).length ≤ 30010 ∧ b.length + 1 ≤ (recB n b).length := by
  have := numB_len (n := n) (by omega) (by omega)
  have := numB_pos n
  simp [recB]; omega
theorem recB_bytes {n : Int} {b : List Int} (h : Bytes b) : Bytes (recB n b) := (numB_bytes n).app h
theorem scan_flat : ∀ (R : List (List Int)) (f : Int), RecOK f R → scan (flatR f R) = (recsR f R, (flatR f R).length)
  | [], f, _ => rfl
  | b :: R, f, h => by
    have hb := h.b b (by simp)
    have hl := recB_len (n := f) h.f.1 (by have := h.f.2; simp only [List.length_cons] at this; omega) hb.2
    have h1 : firstB (flatR f (b :: R)) = some (recB f b) := first_seal (by omega) _
    have hs := seal_len (xs := recB f b) (by omega)
    rw [scan_some h1]
    have hd : (flatR f (b :: R)).drop (8 + (recB f b).length) = flatR (f + 1) R := List.drop_left' hs
    rw [hd, scan_flat R (f + 1) h.tail]
    simp only [flatR, recsR, List.length_append, hs]
theorem flatR_bytes : ∀ (R : List (List Int)) (f : Int), RecOK f R → Bytes (flatR f R)
  | [], f, _ => Bytes.nil
  | b :: R, f, h => (seal_bytes (recB_bytes (h.b b (by simp)).1)).app (flatR_bytes R (f + 1) h.tail)
theorem flatR_app : ∀ (R : List (List Int)) (f : Int) (b : List Int), flatR f (R ++ [b]) = flatR f R ++ sealB (recB (f + R.length) b)
  | [], f, b => by simp [flatR]
  | c :: R, f, b => by
    have := flatR_app R (f + 1) b
    simp only [List.cons_append, flatR, this, List.append_assoc, List.length_cons]
    rw [show f + 1 + (R.length : Int) = f + ((R.length + 1 : Nat) : Int) by omega]
theorem recsR_at : ∀ (R : List (List Int)) (f : Int) (pre : List (List Int)) (b : List Int) (rest : List (List Int)), R = pre ++ b :: rest → (recsR f R)[pre.length]? = some (recB (f + pre.length) b)
  | _, f, [], b, rest, h => by subst h; simp [recsR]
  | _, f, c :: pre, b, rest, h => by
    subst h
    have := recsR_at (pre ++ b :: rest) (f + 1) pre b rest rfl
    simp only [List.cons_append, recsR, List.length_cons, List.getElem?_cons_succ, this]
    rw [show f + 1 + (pre.length : Int) = f + ((pre.length + 1 : Nat) : Int) by omega]
theorem recsR_len : ∀ (R : List (List Int)) (f : Int), (recsR f R).length = R.length
  | [], _ => rfl
  | b :: R, f => by simp [recsR, recsR_len R (f + 1)]
theorem remove0_none (room : Int) (L : FS) (lc : Nat) (F : FS) (c : Nat) (name : List Nat) (hf : findP name F = none) : CallS Try.prog base 40 [.c (.ptr 0 0), .c (.p (.str name))] (hD0 room L lc F c) (.c (.p (.int .i64 14))) (hD0 room L lc F c) := by
  refine CallS.of noNG lDRm.2 rfl (M.start (M.go rfl ?_))
  refine M.use trivial (there0_spec room L lc F c name) [(0, 0), (1, 1), (2, 2)] rfl rfl rfl (by repeat' (first | exact True.intro | refine ⟨⟨_, _, _, rfl, rfl, rfl, WkO.rfl⟩, ?_⟩ | refine HeapOK.acc rfl rfl ?_ | refine HeapOK.es rfl rfl ?_)) rfl rfl ?_
  rw [hf]
  refine M.go rfl ?_
  refine M.condB rfl (fun _ => ?_) (fun hn => by cases hn)
  refine M.go rfl ?_
  exact M.ret (M.go rfl (M.done (finQ.ret [(0, 0), (1, 1), (2, 2)] rfl rfl rfl (by first | exact Wk.rfl | exact Wk.uncap | exact Wk.nil | exact Wk.b1 rfl | exact Wk.t2 Wk.rfl (Wk.b1 rfl)) (by repeat' (first | exact True.intro | refine ⟨⟨_, _, _, rfl, rfl, rfl, WkO.rfl⟩, ?_⟩ | refine HeapOK.acc rfl rfl ?_ | refine HeapOK.es rfl rfl ?_)))))
theorem read0_none (room : Int) (L : FS) (lc : Nat) (F : FS) (c : Nat) (name : List Nat) (hf : findP name F = none) : CallS Try.prog base 36 [.c (.ptr 0 0), .c (.p (.str name))] (hD0 room L lc F c) (.tup [.c (.p (.tz true 1 [] none)), .c (.p (.bool false))]) (hD0 room L lc F c) := by
  refine CallS.of noNG lDRd.2 rfl (M.start (M.wkH (b0 := 2) rfl rfl (WkO.pmap KD.str) (M.go rfl ?_)))
  refine M.op trivial (SOp.look (a := name) KD.str rfl rfl rfl) ?_
  rw [findK_pv, hf]
  refine M.go rfl ?_
  refine M.wkO (i := 19) (v' := .c (.p (.tz true 1 [] none))) rfl Wk.nil ?_
  refine M.use0 trivial (bcl_spec true [] none (by decide)) rfl rfl rfl ?_
  refine M.go rfl ?_
  exact M.ret (M.go rfl (M.done (finQ.ret [(0, 0), (1, 1), (2, 2)] rfl rfl rfl (Wk.of rfl) ⟨⟨_, _, _, rfl, rfl, rfl, WkO.mapp KD.str⟩, ⟨_, _, _, rfl, rfl, rfl, WkO.rfl⟩, ⟨_, _, _, rfl, rfl, rfl, WkO.rfl⟩, trivial⟩)))
noncomputable def lWop : {F : LF // lowerF Try.prog 20 = some F} := ⟨_, rfl⟩
def hO0 (room first en : Int) (L : FS) (lc : Nat) (F : FS) (c : Nat) : HS := ⟨[(3, some (.row [.ptr 0 0, .p (.int .i64 first), .p (.tz true 1 [] none), .p (.tz true 1 [] none), .p (.int .i64 en)] true)), (2, some (fM F c)), (1, some (fM L lc)), (0, some (.row [.p (.int .i64 room), .mp 1, .mp 2, .p (.tz true 5 [] none)] true))], 4⟩
def frN : List Nat := [119, 110, 101, 119]
theorem wopen_empty (room : Int) (L : FS) (lc : Nat) (F : FS) (c : Nat) (h1 : findP frN F = none) (h2 : findP [119] F = none) : CallS Try.prog base 20 [.c (.ptr 0 0)] (hD0 room L lc F c) (.tup [.c (.ptr 3 0), .c (.p (.int .i64 0))]) (hO0 room 0 0 L lc F c) := by
  refine CallS.of noNG lWop.2 rfl (M.start (M.go rfl ?_))
  refine M.use trivial (remove0_none room L lc F c frN h1) [(0, 0), (1, 1), (2, 2)] rfl rfl rfl (by repeat' (first | exact True.intro | refine ⟨⟨_, _, _, rfl, rfl, rfl, WkO.rfl⟩, ?_⟩ | refine HeapOK.acc rfl rfl ?_ | refine HeapOK.es rfl rfl ?_)) rfl rfl ?_
  refine M.go rfl ?_
  refine M.use trivial (read0_none room L lc F c [119] h2) [(0, 0), (1, 1), (2, 2)] rfl rfl rfl (by repeat' (first | exact True.intro | refine ⟨⟨_, _, _, rfl, rfl, rfl, WkO.rfl⟩, ?_⟩ | refine HeapOK.acc rfl rfl ?_ | refine HeapOK.es rfl rfl ?_)) rfl rfl ?_
  refine M.go rfl ?_
  refine M.use0 trivial (scan_spec true [] none Bytes.nil (by decide)) rfl rfl rfl ?_
  refine M.go rfl ?_
  refine M.loop (M.round (M.go rfl ?_))
  refine M.cond rfl (fun hn => absurd hn (by decide)) (fun _ => ?_)
  refine M.exit (M.go rfl (M.done (M.q (M.go rfl ?_))))
  exact M.ret (M.go rfl (M.done (finQ.ret [(0, 0), (1, 1), (2, 2), (3, 3)] rfl rfl rfl (Wk.of rfl) ⟨⟨_, _, _, rfl, rfl, rfl, WkO.row ⟨Wk.rfl, Wk.rfl, Wk.nil, Wk.nil, Wk.rfl, trivial⟩⟩, ⟨_, _, _, rfl, rfl, rfl, WkO.rfl⟩, ⟨_, _, _, rfl, rfl, rfl, WkO.rfl⟩, ⟨_, _, _, rfl, rfl, rfl, WkO.rfl⟩, trivial⟩)))
end Go.Proofs.Ytjlfojgacnphmaa

namespace Go.Proofs.Ytjlfojgacnphmaa
open Go.RowKit Sim Go Sym
set_option maxRecDepth 100000
set_option linter.unusedVariables false
set_option linter.unusedSimpArgs false
variable {base : Nat}
def hO1 (room first en : Int) (L : FS) (lc : Nat) (F : FS) (c : Nat) (x : PC) (X : List PC) (y : PC) (Y : List PC) : HS := ⟨[(5, some (.els 1 (y :: Y))), (4, some (.els 1 (x :: X))), (3, some (.row [.ptr 0 0, .p (.int .i64 first), .acc 4 1 (x :: X), .acc 5 1 (y :: Y), .p (.int .i64 en)] true)), (2, some (fM F c)), (1, some (fM L lc)), (0, some (.row [.p (.int .i64 room), .mp 1, .mp 2, .p (.tz true 5 [] none)] true))], 6⟩
def rcP (b : List Int) : PC := fP false b none
def rcsP (R : List (List Int)) : List PC := R.map rcP
theorem num_rec {n : Int} (hn : InI64 n) (b : List Int) : (RS.num ⟨false, recB n b, false⟩) = (n, ⟨false, b, false⟩) := by
  have := rnum_numB hn.1 hn.2 b
  unfold RS.num
  rw [show (⟨false, recB n b, false⟩ : RS).xs = numB n ++ b from rfl, this]
def opE (B : List Int) (zb : Bool) : Env := [(0, .c (.ptr 0 0)), (4, .c (.ptr 3 0)), (5, .c (.p (.tz zb 1 (u8P B) none))), (6, .c (.p (.bool true)))]
theorem flatR_len : ∀ (R : List (List Int)) (f : Int), RecOK f R → (flatR f R).length ≤ 31000 * R.length
  | [], _, _ => by simp [flatR]
  | b :: R, f, h => by
    have h1 := h.b b (by simp)
    have h2 := recB_len (n := f) h.f.1 (by have := h.f.2; omega) h1.2
    have h3 := seal_len (xs := recB f b) (by omega)
    have h4 := flatR_len R (f + 1) h.tail
    simp only [flatR, List.length_append, List.length_cons]
    omega
def posR : Int → Int → List (List Int) → List PC
  | _, _, [] => []
  | E, f, b :: R => .int .i64 E :: posR (E + (sealB (recB f b)).length) (f + 1) R
theorem posR_app : ∀ (R : List (List Int)) (E f : Int) (b : List Int), posR E f (R ++ [b]) = posR E f R ++ [.int .i64 (E + (flatR f R).length)]
  | [], E, f, b => by simp [posR, flatR]
  | c :: R, E, f, b => by
    have := posR_app R (E + (sealB (recB f c)).length) (f + 1) b
    simp only [List.cons_append, posR, this, flatR, List.length_append]
    rw [show E + ((sealB (recB f c)).length : Int) + ((flatR (f + 1) R).length : Int) = E + (((sealB (recB f c)).length + (flatR (f + 1) R).length : Nat) : Int) by omega]
theorem posR_len : ∀ (R : List (List Int)) (E f : Int), (posR E f R).length = R.length
  | [], _, _ => rfl
  | b :: R, E, f => by simp [posR, posR_len R]
def yP (b0 : List Int) (f : Int) (pr : List (List Int)) : List PC := posR ((sealB (recB f b0)).length : Nat) (f + 1) pr
theorem yP_app (b0 : List Int) (f : Int) (pr : List (List Int)) (b : List Int) : yP b0 f (pr ++ [b]) = yP b0 f pr ++ [.int .i64 ((flatR f (b0 :: pr)).length : Nat)] := by
  rw [yP, posR_app, yP, flatR, List.length_append]
  rw [show (((sealB (recB f b0)).length : Nat) : Int) + ((flatR (f + 1) pr).length : Int) = (((sealB (recB f b0)).length + (flatR (f + 1) pr).length : Nat) : Int) by omega]
theorem yP_len (b0 : List Int) (f : Int) (pr : List (List Int)) : (yP b0 f pr).length = pr.length := posR_len _ _ _
theorem open_loop (room : Int) (L : FS) (lc : Nat) (F : FS) (c : Nat) (B : List Int) (zb : Bool) (f : Int) (R : List (List Int)) (h : RecOK f R) (Q : QX) (hq : ∀ b0 pr, R = b0 :: pr → Q (.exit 0) (opE B zb) (hO1 room f ((flatR f R).length : Nat) L lc F c (rcP b0) (rcsP pr) (.int .i64 0) (yP b0 f pr))) :
    ∀ (rest : List (List Int)) (b0 : List Int) (pr : List (List Int)), R = (b0 :: pr) ++ rest → XH Try.prog base lWop.1.n 3 (lWop.1.c.lp 0) (opE B zb ++ [(31, .c (.p (.tz true 1 (sksP (recsR f R)) none))), (32, .c (.p (.int .i64 R.length))), (33, .c (.p (.int .i64 (b0 :: pr).length)))]) (hO1 room f ((flatR f (b0 :: pr)).length : Nat) L lc F c (rcP b0) (rcsP pr) (.int .i64 0) (yP b0 f pr)) Q := by
  have hsl : (sksP (recsR f R)).length = R.length := by simp [sksP, recsR_len]
  intro rest
  induction rest with
  | nil =>
    intro b0 pr hp
    rw [List.append_nil] at hp
    have hq' := hq b0 pr hp
    rw [hp] at hq'
    have hlen : R.length = (b0 :: pr).length := by rw [hp]
    refine M.round (M.go rfl ?_)
    refine M.cond rfl (fun hn => absurd hn (by omega)) (fun _ => ?_)
    refine M.ren [(0, 0), (1, 1), (2, 2), (3, 3), (4, 4), (5, 5)] ?_ trivial rfl (by repeat' (first | exact True.intro | refine ⟨⟨_, _, rfl, rfl, Wk.rfl⟩, ?_⟩ | refine ⟨⟨_, _, accV_ren rfl, rfl, Wk.rfl⟩, ?_⟩ | refine ⟨⟨_, _, accV_ren rfl, rfl, Wk.acc0⟩, ?_⟩ | refine ⟨⟨_, _, rfl, rfl, Wk.uncap⟩, ?_⟩ | refine ⟨⟨_, _, rfl, rfl, Wk.nil⟩, ?_⟩)) (by repeat' (first | exact True.intro | refine ⟨⟨_, _, _, rfl, rfl, rfl, WkO.rfl⟩, ?_⟩ | refine HeapOK.acc rfl rfl ?_ | refine HeapOK.es rfl rfl ?_)) (e' := opE B zb) (h' := hO1 room f ((flatR f (b0 :: pr)).length : Nat) L lc F c (rcP b0) (rcsP pr) (.int .i64 0) (yP b0 f pr))
    exact M.exit (M.go rfl (M.done hq'))
  | cons b rest ih =>
    intro b0 pr hp
    have hY := yP_len b0 f pr
    have hya := yP_app b0 f pr b
    have hlen : R.length = (b0 :: pr).length + (rest.length + 1) := by rw [hp]; simp; omega
    obtain ⟨j, hj⟩ : ∃ j, j = (b0 :: pr).length := ⟨_, rfl⟩
    have hj2 : j = pr.length + 1 := hj
    obtain ⟨n, hn⟩ : ∃ n : Int, n = f + j := ⟨_, rfl⟩
    have hRl := h.l
    have hf := h.f
    have hbb := h.b b (by rw [hp]; simp)
    have hl := recB_len (n := n) (b := b) (by omega) (by omega) hbb.2
    have hBs := recB_bytes (n := n) hbb.1
    have hn64 : InI64 n := ⟨by omega, by omega⟩
    have hnum := num_rec hn64 b
    have hat := recsR_at R f (b0 :: pr) b rest hp
    rw [← hj, ← hn] at hat
    have hu : (sksP (recsR f R))[((j : Int)).toNat]? = some (skP (recB n b)) := by rw [show ((j : Int)).toNat = j by omega, sksP, List.getElem?_map, hat]; rfl
    have hw2 : IntKind.i64.wrap ((j : Int) + 1) = ((j + 1 : Nat) : Int) := by rw [wr64 (by omega) (by omega)]; omega
    have hrok : (⟨false, recB n b, false⟩ : RS).ok := ⟨by show (recB n b).length ≤ _; omega, hBs, fun e => (by cases e), fun e => (by cases e)⟩
    have hrn := rnum_spec (base := base) ⟨false, recB n b, false⟩ hrok
    rw [hnum] at hrn
    have hfl : flatR f (b0 :: pr ++ [b]) = flatR f (b0 :: pr) ++ sealB (recB n b) := by rw [flatR_app, ← hj, ← hn]
    have hsn := seal_len (xs := recB n b) (by omega)
    have hfle := flatR_len (b0 :: pr) f ⟨⟨hf.1, by rw [hlen] at hf; omega⟩, by omega, fun c hc => h.b c (by rw [hp]; exact List.mem_append_left _ hc)⟩
    rw [← hj] at hfle ⊢
    have ih' := ih b0 (pr ++ [b])
    rw [show b0 :: (pr ++ [b]) = b0 :: pr ++ [b] from rfl, hfl, show (b0 :: pr ++ [b]).length = j + 1 by rw [hj]; simp, show (flatR f (b0 :: pr) ++ sealB (recB n b)).length = (flatR f (b0 :: pr)).length + (sealB (recB n b)).length from List.length_append] at ih'
    obtain ⟨E, hE⟩ : ∃ E, E = (flatR f (b0 :: pr)).length := ⟨_, rfl⟩
    rw [hya] at ih'
    rw [← hE] at ih' hfle ⊢
    generalize yP b0 f pr = Y at *
    generalize hy0 : PC.int .i64 (0 : Int) = y at *
    refine M.round (M.go rfl ?_)
    refine M.cond rfl (fun _ => ?_) (fun hn => absurd (by omega) hn)
    refine M.go rfl ?_
    refine M.op trivial (SOp.ia rfl rfl (by omega) hu) ?_
    refine M.op trivial (SOp.ld1e rfl hu rfl rfl rfl) ?_
    refine M.go rfl ?_
    refine M.use trivial (rread_spec false (recB n b) none (by omega)) [] rfl rfl rfl trivial rfl rfl ?_
    refine M.go rfl ?_
    refine M.use trivial hrn [(0, 6)] rfl rfl rfl (by repeat' (first | exact True.intro | refine ⟨⟨_, _, _, rfl, rfl, rfl, WkO.rfl⟩, ?_⟩ | refine HeapOK.acc rfl rfl ?_ | refine HeapOK.es rfl rfl ?_)) rfl rfl ?_
    refine M.go rfl ?_
    refine M.use trivial (rleft_spec ⟨false, b, false⟩) [(0, 6)] rfl rfl rfl (by repeat' (first | exact True.intro | refine ⟨⟨_, _, _, rfl, rfl, rfl, WkO.rfl⟩, ?_⟩ | refine HeapOK.acc rfl rfl ?_ | refine HeapOK.es rfl rfl ?_)) rfl rfl ?_
    refine M.go rfl ?_
    rw [u8P_len]
    have hdr : (recB n b).drop ((recB n b).length - b.length) = b := by rw [recB, List.length_append, Nat.add_sub_cancel]; exact List.drop_left' rfl
    rw [wr64 (n := ((recB n b).length : Int) - (b.length : Int)) (by omega) (by omega)]
    refine M.op trivial (SOp.sl (l := (recB n b).length - b.length) (r := (recB n b).length) rfl ⟨_, _, rfl, by omega, by omega⟩ (u8P_len _).symm (by omega) (by rw [u8P_len]; omega)) ?_
    rw [u8P_drop, hdr, List.take_of_length_le (by rw [u8P_len]; omega)]
    refine M.go rfl ?_
    refine M.use trivial (rok_spec ⟨false, b, false⟩) [(0, 6)] rfl rfl rfl (by repeat' (first | exact True.intro | refine ⟨⟨_, _, _, rfl, rfl, rfl, WkO.rfl⟩, ?_⟩ | refine HeapOK.acc rfl rfl ?_ | refine HeapOK.es rfl rfl ?_)) rfl rfl ?_
    refine M.go rfl ?_
    refine M.decB rfl (fun hn => by cases hn) (fun _ => ?_)
    refine M.go rfl ?_
    refine M.dec rfl (fun hn => absurd hn (by omega)) (fun _ => ?_)
    refine M.go rfl ?_
    refine M.dec rfl (fun hn => absurd hn (by rw [u8P_len]; omega)) (fun _ => ?_)
    refine M.go rfl ?_
    refine M.dec rfl (fun _ => ?_) (fun hn => absurd (by simp) hn)
    refine M.go rfl ?_
    have hXl : (rcsP pr).length = pr.length := by simp [rcsP]
    refine M.use (by first | exact True.intro | exact rfl) (last01_spec room f (E : Int) L lc F c (rcP b0) (rcsP pr) y Y (by omega) ⟨by omega, by omega⟩) [(0, 3), (1, 0), (2, 1), (3, 2), (4, 4), (5, 5)] rfl rfl rfl (by repeat' (first | exact True.intro | refine ⟨⟨_, _, _, rfl, rfl, rfl, WkO.rfl⟩, ?_⟩ | refine HeapOK.acc rfl rfl ?_ | refine HeapOK.es rfl rfl ?_)) rfl rfl ?_
    refine M.go rfl ?_
    rw [hXl, wr64 (n := f + (pr.length : Int) + 1) (by omega) (by omega)]
    refine M.condN rfl (fun hn' => absurd (by omega) hn') (fun _ => ?_)
    refine M.go rfl ?_
    refine M.use0 trivial (sealS_yes false none (recB n b) hBs (by omega)) rfl rfl rfl ?_
    refine M.go rfl ?_
    rw [u8P_len]
    refine M.use trivial (add01_spec room f (E : Int) L lc F c (rcP b0) (rcsP pr) y Y n false b none ((sealB (recB n b)).length : Int) (by omega) (by omega) (by omega) ⟨by omega, by omega⟩ ⟨by omega, by omega⟩) [(0, 3), (1, 0), (2, 1), (3, 2), (4, 4), (5, 5)] rfl rfl rfl (by repeat' (first | exact True.intro | refine ⟨⟨_, _, _, rfl, rfl, rfl, WkO.rfl⟩, ?_⟩ | refine HeapOK.acc rfl rfl ?_ | refine HeapOK.es rfl rfl ?_)) rfl rfl ?_
    refine M.go rfl ?_
    rw [hw2, show (E : Int) + ((sealB (recB n b)).length : Int) = ((E + (sealB (recB n b)).length : Nat) : Int) by omega, show rcsP pr ++ [fP false b none] = rcsP (pr ++ [b]) by simp [rcsP, rcP]]
    exact M.again (XH.ren [(0, 0), (1, 1), (2, 2), (3, 3), (4, 7), (5, 8)] (ih' (by rw [hp]; simp)) rfl (by repeat' (first | exact True.intro | refine ⟨⟨_, _, rfl, rfl, Wk.rfl⟩, ?_⟩ | refine ⟨⟨_, _, accV_ren rfl, rfl, Wk.rfl⟩, ?_⟩ | refine ⟨⟨_, _, accV_ren rfl, rfl, Wk.acc0⟩, ?_⟩ | refine ⟨⟨_, _, rfl, rfl, Wk.uncap⟩, ?_⟩ | refine ⟨⟨_, _, rfl, rfl, Wk.nil⟩, ?_⟩)) (by repeat' (first | exact True.intro | refine ⟨⟨_, _, _, rfl, rfl, rfl, WkO.rfl⟩, ?_⟩ | refine HeapOK.acc rfl rfl ?_ | refine HeapOK.es rfl rfl ?_)))
end Go.Proofs.Ytjlfojgacnphmaa

namespace Go.Proofs.Ytjlfojgacnphmaa
open Go.RowKit Sim Go Sym
set_option maxRecDepth 100000
set_option linter.unusedVariables false
set_option linter.unusedSimpArgs false
variable {base : Nat}
theorem wopen_spec (room : Int) (L : FS) (lc : Nat) (F : FS) (c : Nat) (f : Int) (b : List Int) (rest : List (List Int)) (h : RecOK f (b :: rest)) (zF : Bool) (cp : Option Nat) (h1 : findP frN F = none) (h2 : findP [119] F = some (fP zF (flatR f (b :: rest)) cp)) : CallS Try.prog base 20 [.c (.ptr 0 0)] (hD0 room L lc F c) (.tup [.c (.ptr 3 0), .c (.p (.int .i64 0))]) (hO1 room f ((flatR f (b :: rest)).length : Nat) L lc F c (rcP b) (rcsP rest) (.int .i64 0) (yP b f rest)) := by
  have hBF := flatR_bytes (b :: rest) f h
  have hFl := flatR_len (b :: rest) f h
  have hRl := h.l
  have hf := h.f
  have hsc := scan_spec (base := base) zF (flatR f (b :: rest)) none hBF (by omega)
  rw [scan_flat _ _ h] at hsc
  have hsl : (sksP (recsR f (b :: rest))).length = (b :: rest).length := by simp [sksP, recsR_len]
  have hbb := h.b b (by simp)
  have hl := recB_len (n := f) (b := b) (by omega) (by omega) hbb.2
  have hBs := recB_bytes (n := f) hbb.1
  have hn64 : InI64 f := ⟨by omega, by omega⟩
  have hnum := num_rec hn64 b
  have hrok : (⟨false, recB f b, false⟩ : RS).ok := ⟨by show (recB f b).length ≤ _; omega, hBs, fun e => (by cases e), fun e => (by cases e)⟩
  have hrn := rnum_spec (base := base) ⟨false, recB f b, false⟩ hrok
  rw [hnum] at hrn
  have hsn := seal_len (xs := recB f b) (by omega)
  have hu : (sksP (recsR f (b :: rest)))[((0 : Int)).toNat]? = some (skP (recB f b)) := rfl
  have h1f : (flatR f [b]).length = (sealB (recB f b)).length := by simp [flatR]
  refine CallS.of noNG lWop.2 rfl (M.start (M.go rfl ?_))
  refine M.use trivial (remove0_none room L lc F c frN h1) [(0, 0), (1, 1), (2, 2)] rfl rfl rfl (by repeat' (first | exact True.intro | refine ⟨⟨_, _, _, rfl, rfl, rfl, WkO.rfl⟩, ?_⟩ | refine HeapOK.acc rfl rfl ?_ | refine HeapOK.es rfl rfl ?_)) rfl rfl ?_
  refine M.go rfl ?_
  refine M.use trivial (read0_spec room L lc F c [119] zF (flatR f (b :: rest)) cp h2 (by omega)) [(0, 0), (1, 1), (2, 2)] rfl rfl rfl (by repeat' (first | exact True.intro | refine ⟨⟨_, _, _, rfl, rfl, rfl, WkO.rfl⟩, ?_⟩ | refine HeapOK.acc rfl rfl ?_ | refine HeapOK.es rfl rfl ?_)) rfl rfl ?_
  refine M.go rfl ?_
  refine M.use0 trivial hsc rfl rfl rfl ?_
  refine M.go rfl ?_
  refine M.loop (M.round (M.go rfl ?_))
  refine M.cond rfl (fun _ => ?_) (fun hn => absurd (by rw [hsl]; simp) hn)
  refine M.go rfl ?_
  refine M.op trivial (SOp.ia rfl rfl (by omega) hu) ?_
  refine M.op trivial (SOp.ld1e rfl hu rfl rfl rfl) ?_
  refine M.go rfl ?_
  refine M.use trivial (rread_spec false (recB f b) none (by omega)) [] rfl rfl rfl trivial rfl rfl ?_
  refine M.go rfl ?_
  refine M.use trivial hrn [(0, 4)] rfl rfl rfl (by repeat' (first | exact True.intro | refine ⟨⟨_, _, _, rfl, rfl, rfl, WkO.rfl⟩, ?_⟩ | refine HeapOK.acc rfl rfl ?_ | refine HeapOK.es rfl rfl ?_)) rfl rfl ?_
  refine M.go rfl ?_
  refine M.use trivial (rleft_spec ⟨false, b, false⟩) [(0, 4)] rfl rfl rfl (by repeat' (first | exact True.intro | refine ⟨⟨_, _, _, rfl, rfl, rfl, WkO.rfl⟩, ?_⟩ | refine HeapOK.acc rfl rfl ?_ | refine HeapOK.es rfl rfl ?_)) rfl rfl ?_
  refine M.go rfl ?_
  rw [u8P_len (recB f b)]
  have hdr : (recB f b).drop ((recB f b).length - b.length) = b := by rw [recB, List.length_append, Nat.add_sub_cancel]; exact List.drop_left' rfl
  rw [wr64 (n := ((recB f b).length : Int) - (b.length : Int)) (by omega) (by omega)]
  refine M.op trivial (SOp.sl (l := (recB f b).length - b.length) (r := (recB f b).length) rfl ⟨_, _, rfl, by omega, by omega⟩ (u8P_len _).symm (by omega) (by rw [u8P_len]; omega)) ?_
  rw [u8P_drop, hdr, List.take_of_length_le (by rw [u8P_len]; omega)]
  refine M.go rfl ?_
  refine M.use trivial (rok_spec ⟨false, b, false⟩) [(0, 4)] rfl rfl rfl (by repeat' (first | exact True.intro | refine ⟨⟨_, _, _, rfl, rfl, rfl, WkO.rfl⟩, ?_⟩ | refine HeapOK.acc rfl rfl ?_ | refine HeapOK.es rfl rfl ?_)) rfl rfl ?_
  refine M.go rfl ?_
  refine M.decB rfl (fun hn => by cases hn) (fun _ => ?_)
  refine M.go rfl ?_
  refine M.dec rfl (fun hn => absurd hn (by omega)) (fun _ => ?_)
  refine M.go rfl ?_
  refine M.dec rfl (fun hn => absurd hn (by rw [u8P_len]; omega)) (fun _ => ?_)
  refine M.go rfl ?_
  refine M.dec rfl (fun hn => absurd hn (by simp)) (fun _ => ?_)
  refine M.go rfl ?_
  refine M.use0 trivial (sealS_yes false none (recB f b) hBs (by omega)) rfl rfl rfl ?_
  refine M.go rfl ?_
  rw [u8P_len (sealB (recB f b))]
  refine M.shO (Sh.wkH (b0 := 3) (o' := .row [.ptr 0 0, .p (.int .i64 0), .p (.tz true 1 [] none), .p (.tz true 1 [] none), .p (.int .i64 0)] true) rfl rfl (WkO.row ⟨Wk.rfl, Wk.rfl, Wk.nil, Wk.nil, Wk.rfl, trivial⟩) Sh.refl) ?_
  refine M.use trivial (add00_spec room 0 0 L lc F c f false b none ((sealB (recB f b)).length : Int) (by omega) (by omega) ⟨by omega, by omega⟩) [(0, 3), (1, 0), (2, 1), (3, 2)] rfl rfl rfl (by repeat' (first | exact True.intro | refine ⟨⟨_, _, _, rfl, rfl, rfl, WkO.rfl⟩, ?_⟩ | refine HeapOK.acc rfl rfl ?_ | refine HeapOK.es rfl rfl ?_)) rfl rfl ?_
  refine M.go rfl ?_
  rw [hsl, show (0 : Int) + ((sealB (recB f b)).length : Int) = ((flatR f [b]).length : Nat) by rw [h1f]; omega]
  refine M.again (XH.ren [(0, 0), (1, 1), (2, 2), (3, 3), (4, 5), (5, 6)] (open_loop room L lc F c (flatR f (b :: rest)) zF f (b :: rest) h _ (fun b0 pr hp => ?_) rest b [] rfl) rfl (by repeat' (first | exact True.intro | refine ⟨⟨_, _, rfl, rfl, Wk.rfl⟩, ?_⟩ | refine ⟨⟨_, _, accV_ren rfl, rfl, Wk.rfl⟩, ?_⟩ | refine ⟨⟨_, _, accV_ren rfl, rfl, Wk.acc0⟩, ?_⟩ | refine ⟨⟨_, _, rfl, rfl, Wk.uncap⟩, ?_⟩ | refine ⟨⟨_, _, rfl, rfl, Wk.nil⟩, ?_⟩)) (by repeat' (first | exact True.intro | refine ⟨⟨_, _, _, rfl, rfl, rfl, WkO.rfl⟩, ?_⟩ | refine HeapOK.acc rfl rfl ?_ | refine HeapOK.es rfl rfl ?_)))
  obtain ⟨rfl, rfl⟩ := List.cons.inj hp
  refine M.q (M.go rfl (M.done (M.q (M.go rfl ?_))))
  refine M.cond rfl (fun hn => absurd hn (by rw [u8P_len]; omega)) (fun _ => ?_)
  refine M.go rfl ?_
  exact M.ret (M.go rfl (M.done (finQ.ret [(0, 0), (1, 1), (2, 2), (3, 3), (4, 4), (5, 5)] rfl rfl rfl (Wk.of rfl) (by repeat' (first | exact True.intro | refine ⟨⟨_, _, _, rfl, rfl, rfl, WkO.rfl⟩, ?_⟩ | refine HeapOK.acc rfl rfl ?_ | refine HeapOK.es rfl rfl ?_)))))
noncomputable def lWsy : {F : LF // lowerF Try.prog 22 = some F} := ⟨_, rfl⟩
end Go.Proofs.Ytjlfojgacnphmaa

namespace Go.Proofs.Ytjlfojgacnphmaa
open Go.RowKit Sim Go Sym
set_option maxRecDepth 100000
set_option linter.unusedVariables false
set_option linter.unusedSimpArgs false
variable {base : Nat}
section
variable {P : Program} {n k : Nat} {e : Env} {h : HS}
theorem SOp.ia1 {b o m' j : Nat} {x i : LX} {c : Option Nat} {k : IntKind} (hx : xev e x = some (.c (.sl b o m' 1 c))) (hi : xev e i = some (.c (.p (.int k (j : Nat))))) (h1 : j < m') : SOp P n (.ia 1 x i) e h (.c (.ptr b (o + j))) h := by
  have := SOp.iaO (P := P) (n := n) (h := h) hx hi (by omega) (by omega)
  rwa [show o + ((j : Nat) : Int).toNat * 1 = o + j by simp] at this
theorem SOp.ld1A {x : LX} {b i : Nat} {el : List PC} {u : PC} (hx : xev e x = some (.c (.ptr b i))) (hb : h.get b = some (.els 1 el)) (hu : el[i]? = some u) (h1 : u.cells.all PC.one = true) (h2 : u.cells.length = 1) (hl : getN u.cells 0 1 = some [u]) : SOp P n (.ld1 x) e h (.c (.p u)) h :=
  SOp.ld1O (s := 1) (o := 0) (by rw [Nat.mul_one, Nat.add_zero]; exact hx) hb hu h1 h2 hl
theorem SOp.stA {x y : LX} {b i : Nat} {p : PC} {el : List PC} (hx : xev e x = some (.c (.ptr b i))) (hy : xev e y = some (.c (.p p))) (hp : p.one = true) (hb : h.get b = some (.els 1 el)) (hi : i < el.length) :
    SOp P n (.st 1 x y) e h (.tup []) (h.put b (some (.els 1 (el.set i p)))) := SOp.stE1 (by rw [Nat.mul_one, Nat.add_zero]; exact hx) hy hp hb hi
theorem SOp.sl1 {x : LX} {lo hi : Option LX} {b o m l r : Nat} (hx : xev e x = some (.c (.sl b o m 1 none))) (hl : BndX e lo 0 l) (hr : BndX e hi m r) (h1 : l ≤ r) (h2 : r ≤ m) :
    SOp P n (.sl 1 x lo hi none) e h (.c (.sl b (o + l) (r - l) 1 none)) h := by
  have := SOp.slO (P := P) (n := n) (h := h) hx hl hr h1 h2 (by omega)
  rwa [Nat.mul_one] at this
theorem SOp.appI1 {bytes b o m : Nat} {x y : LX} {v : XC} {ex : List PC} {u : PC} (hx : xev e x = some (.c (.sl b o m 1 none))) (hb : h.get b = some (.els 1 ex)) (hy : xev e y = some (.c v)) (hel : ElsX h 1 v [u]) (hm : o + m < ex.length) (hc : (m + 1) * bytes ≤ 140737488355328) :
    SOp P n (.app 1 bytes x y) e h (.c (.sl b o (m + 1) 1 none)) (h.put b (some (.els 1 (ex.set (o + m) u)))) :=
  step_app hx hy hel fun h1 h2 => by
    have h4 : (flatE 1 ex).length = ex.length * 1 := flatE_len 1 ex
    have h6 : (flatE 1 [u]).length = 1 * 1 := flatE_len 1 [u]
    have h5 : roomB none (m + 1) o 1 (flatE 1 ex).length = true := by
      simp only [roomB, h4, Nat.ble_eq]
      omega
    have h8 : o + m * 1 + 1 * 1 ≤ ex.length * 1 := by omega
    have h9 := setRange_flat 1 ex [u] (o + m) (by simp; omega)
    simp only [List.length_cons, List.length_nil, Nat.zero_add, XC.sc, get_els hb] at *
    rw [if_neg (by decide), if_pos ⟨hc, h1, by decide, trivial⟩, if_pos h5]
    simp only [SH.write, get_els hb, h6, h4, if_pos h8, Option.map_some]
    rw [show o + m * 1 = (o + m) * 1 by omega, h9, List.set_eq_take_append_cons_drop, if_pos hm]
    simp only [List.append_assoc, List.singleton_append, List.cons_append, List.nil_append]
    rfl
theorem SOp.appG1 {bytes b o m : Nat} {x y : LX} {v : XC} {ex : List PC} {u : PC} (hx : xev e x = some (.c (.sl b o m 1 none))) (hb : h.get b = some (.els 1 ex)) (hy : xev e y = some (.c v)) (hel : ElsX h 1 v [u]) (hm : o + m = ex.length) (hc : (m + 1) * bytes ≤ 140737488355328) :
    SOp P n (.app 1 bytes x y) e h (.c (.sl h.next 0 (m + 1) 1 none)) ((h.put b none).newO (.els 1 (ex.drop o ++ [u]))) :=
  step_app hx hy hel fun h1 h2 => by
    have h4 : (flatE 1 ex).length = ex.length * 1 := flatE_len 1 ex
    have h5 : ¬ (roomB none (m + 1) o 1 (flatE 1 ex).length = true) := by
      simp only [roomB, h4, Nat.ble_eq, Nat.not_le]
      omega
    have h6 := flatE_drop 1 ex o
    simp only [Nat.mul_one] at h6
    simp only [List.length_cons, List.length_nil, Nat.zero_add, XC.sc, get_els hb] at *
    rw [if_neg (by decide), if_pos ⟨hc, h1, by decide, trivial⟩, if_neg h5, if_pos ⟨by omega, .inr trivial⟩]
    simp only [Option.isSome_none, Bool.false_eq_true, if_false]
    rw [h6, List.take_of_length_le (by rw [flatE_len, List.length_drop]; omega), ← flatE_app]
    rfl
end
def hG0 (a d nx : Nat) (room first en : Int) (o m : Nat) (L : FS) (lc : Nat) (F : FS) (c : Nat) (X Y : List PC) : HS := ⟨[(d, some (.els 1 Y)), (a, some (.els 1 X)), (3, some (fM F c)), (2, some (fM L lc)), (1, some (.row [.p (.int .i64 room), .mp 2, .mp 3, .p (.tz true 5 [] none)] true)), (0, some (.row [.ptr 1 0, .p (.int .i64 first), .sl a o m 1 none, .sl d o m 1 none, .p (.int .i64 en)] true))], nx⟩
def hG1 (b a d nx : Nat) (room first en : Int) (o m : Nat) (L : FS) (lc : Nat) (F : FS) (c : Nat) (w : PC) (W : List PC) (X Y : List PC) : HS := ⟨[(d, some (.els 1 Y)), (a, some (.els 1 X)), (b, some (.els 5 (w :: W))), (3, some (fM F c)), (2, some (fM L lc)), (1, some (.row [.p (.int .i64 room), .mp 2, .mp 3, .acc b 5 (w :: W)] true)), (0, some (.row [.ptr 1 0, .p (.int .i64 first), .sl a o m 1 none, .sl d o m 1 none, .p (.int .i64 en)] true))], nx⟩
def hG0s (bl a d nx : Nat) (room first en : Int) (o m : Nat) (F : FS) (c : Nat) (X Y : List PC) : HS := ⟨[(bl, some (fM F c)), (d, some (.els 1 Y)), (a, some (.els 1 X)), (3, some (fM F c)), (1, some (.row [.p (.int .i64 room), .mp bl, .mp 3, .p (.tz true 5 [] none)] true)), (0, some (.row [.ptr 1 0, .p (.int .i64 first), .sl a o m 1 none, .sl d o m 1 none, .p (.int .i64 en)] true))], nx⟩
noncomputable def lWfi : {F : LF // lowerF Try.prog 31 = some F} := ⟨_, rfl⟩
noncomputable def lWge : {F : LF // lowerF Try.prog 26 = some F} := ⟨_, rfl⟩
theorem glast0_0 (room first en : Int) (o : Nat) (L : FS) (lc : Nat) (F : FS) (c : Nat) (X Y : List PC) : CallS Try.prog base 24 [.c (.ptr 0 0)] (hG0 4 5 6 room first en o 0 L lc F c X Y) (.c (.p (.int .i64 0))) (hG0 4 5 6 room first en o 0 L lc F c X Y) := by
  refine CallS.of noNG lWla.2 rfl (M.start (M.go rfl ?_))
  refine M.cond rfl (fun _ => ?_) (fun hn => absurd (by simp) hn)
  refine M.go rfl ?_
  exact M.ret (M.go rfl (M.done (finQ.ret [(0, 0), (1, 1), (2, 2), (3, 3), (4, 4), (5, 5)] rfl rfl rfl (by first | exact Wk.rfl | exact Wk.uncap | exact Wk.nil | exact Wk.b1 rfl | exact Wk.t2 Wk.rfl (Wk.b1 rfl)) (by repeat' (first | exact True.intro | refine ⟨⟨_, _, _, rfl, rfl, rfl, WkO.rfl⟩, ?_⟩ | refine HeapOK.acc rfl rfl ?_ | refine HeapOK.es rfl rfl ?_)))))
theorem glast0_1 (room first en : Int) (o m : Nat) (L : FS) (lc : Nat) (F : FS) (c : Nat) (X Y : List PC) (hm : m ≤ 100000) (hf : 0 ≤ first ∧ first ≤ 2000000000000000) : CallS Try.prog base 24 [.c (.ptr 0 0)] (hG0 4 5 6 room first en o (m + 1) L lc F c X Y) (.c (.p (.int .i64 (first + m)))) (hG0 4 5 6 room first en o (m + 1) L lc F c X Y) := by
  refine CallS.of noNG lWla.2 rfl (M.start (M.go rfl ?_))
  refine M.cond rfl (fun hn => absurd hn (by simp; omega)) (fun _ => ?_)
  refine M.go rfl ?_
  refine M.regD (MD.go rfl ?_)
  refine MD.nil mixed (Fnl.nodup rfl) (M.go rfl ?_)
  rw [show ((m + 1 : Nat) : Int) = (m : Int) + 1 by omega, wr64 (n := first + ((m : Int) + 1)) (by omega) (by omega), show first + ((m : Int) + 1) - 1 = first + m by omega, wr64 (n := first + (m : Int)) (by omega) (by omega)]
  exact M.ret (M.go rfl (M.done (finQ.ret [(0, 0), (1, 1), (2, 2), (3, 3), (4, 4), (5, 5)] rfl rfl rfl (by first | exact Wk.rfl | exact Wk.uncap | exact Wk.nil | exact Wk.b1 rfl | exact Wk.t2 Wk.rfl (Wk.b1 rfl)) (by repeat' (first | exact True.intro | refine ⟨⟨_, _, _, rfl, rfl, rfl, WkO.rfl⟩, ?_⟩ | refine HeapOK.acc rfl rfl ?_ | refine HeapOK.es rfl rfl ?_)))))
theorem gfirst0_0 (room first en : Int) (o : Nat) (L : FS) (lc : Nat) (F : FS) (c : Nat) (X Y : List PC) : CallS Try.prog base 31 [.c (.ptr 0 0)] (hG0 4 5 6 room first en o 0 L lc F c X Y) (.c (.p (.int .i64 0))) (hG0 4 5 6 room first en o 0 L lc F c X Y) := by
  refine CallS.of noNG lWfi.2 rfl (M.start (M.go rfl ?_))
  refine M.cond rfl (fun _ => ?_) (fun hn => absurd (by simp) hn)
  refine M.go rfl ?_
  exact M.ret (M.go rfl (M.done (finQ.ret [(0, 0), (1, 1), (2, 2), (3, 3), (4, 4), (5, 5)] rfl rfl rfl (by first | exact Wk.rfl | exact Wk.uncap | exact Wk.nil | exact Wk.b1 rfl | exact Wk.t2 Wk.rfl (Wk.b1 rfl)) (by repeat' (first | exact True.intro | refine ⟨⟨_, _, _, rfl, rfl, rfl, WkO.rfl⟩, ?_⟩ | refine HeapOK.acc rfl rfl ?_ | refine HeapOK.es rfl rfl ?_)))))
theorem gfirst0_1 (room first en : Int) (o m : Nat) (L : FS) (lc : Nat) (F : FS) (c : Nat) (X Y : List PC) : CallS Try.prog base 31 [.c (.ptr 0 0)] (hG0 4 5 6 room first en o (m + 1) L lc F c X Y) (.c (.p (.int .i64 first))) (hG0 4 5 6 room first en o (m + 1) L lc F c X Y) := by
  refine CallS.of noNG lWfi.2 rfl (M.start (M.go rfl ?_))
  refine M.cond rfl (fun hn => absurd hn (by simp; omega)) (fun _ => ?_)
  refine M.go rfl ?_
  exact M.ret (M.go rfl (M.done (finQ.ret [(0, 0), (1, 1), (2, 2), (3, 3), (4, 4), (5, 5)] rfl rfl rfl (by first | exact Wk.rfl | exact Wk.uncap | exact Wk.nil | exact Wk.b1 rfl | exact Wk.t2 Wk.rfl (Wk.b1 rfl)) (by repeat' (first | exact True.intro | refine ⟨⟨_, _, _, rfl, rfl, rfl, WkO.rfl⟩, ?_⟩ | refine HeapOK.acc rfl rfl ?_ | refine HeapOK.es rfl rfl ?_)))))
theorem gget0_0 (room first en : Int) (o : Nat) (L : FS) (lc : Nat) (F : FS) (c : Nat) (X Y : List PC) (n : Int) : CallS Try.prog base 26 [.c (.ptr 0 0), .c (.p (.int .i64 n))] (hG0 4 5 6 room first en o 0 L lc F c X Y) (.tup [.c (.p (.tz true 0 [] none)), .c (.p (.bool false))]) (hG0 4 5 6 room first en o 0 L lc F c X Y) := by
  refine CallS.of noNG lWge.2 rfl (M.start (M.go rfl ?_))
  refine M.use trivial (gfirst0_0 room first en o  L lc F c X Y) [(0, 0), (1, 1), (2, 2), (3, 3), (4, 4), (5, 5)] rfl rfl rfl (by repeat' (first | exact True.intro | refine ⟨⟨_, _, _, rfl, rfl, rfl, WkO.rfl⟩, ?_⟩ | refine HeapOK.acc rfl rfl ?_ | refine HeapOK.es rfl rfl ?_)) rfl rfl ?_
  refine M.go rfl ?_
  refine M.dec rfl (fun _ => ?_) (fun hn => absurd (by decide) hn)
  refine M.go rfl ?_
  exact M.ret (M.go rfl (M.done (finQ.ret [(0, 0), (1, 1), (2, 2), (3, 3), (4, 4), (5, 5)] rfl rfl rfl (Wk.of rfl) (by repeat' (first | exact True.intro | refine ⟨⟨_, _, _, rfl, rfl, rfl, WkO.rfl⟩, ?_⟩ | refine HeapOK.acc rfl rfl ?_ | refine HeapOK.es rfl rfl ?_)))))
theorem gget0_n (room first en : Int) (o m : Nat) (L : FS) (lc : Nat) (F : FS) (c : Nat) (X Y : List PC) (hm : m ≤ 100000) (hf : 1 ≤ first ∧ first ≤ 2000000000000000) (n : Int) (hn : n < first ∨ first + m < n) : CallS Try.prog base 26 [.c (.ptr 0 0), .c (.p (.int .i64 n))] (hG0 4 5 6 room first en o (m + 1) L lc F c X Y) (.tup [.c (.p (.tz true 0 [] none)), .c (.p (.bool false))]) (hG0 4 5 6 room first en o (m + 1) L lc F c X Y) := by
  refine CallS.of noNG lWge.2 rfl (M.start (M.go rfl ?_))
  refine M.use trivial (gfirst0_1 room first en o m L lc F c X Y) [(0, 0), (1, 1), (2, 2), (3, 3), (4, 4), (5, 5)] rfl rfl rfl (by repeat' (first | exact True.intro | refine ⟨⟨_, _, _, rfl, rfl, rfl, WkO.rfl⟩, ?_⟩ | refine HeapOK.acc rfl rfl ?_ | refine HeapOK.es rfl rfl ?_)) rfl rfl ?_
  refine M.go rfl ?_
  refine M.dec rfl (fun hh => absurd hh (by omega)) (fun _ => ?_)
  refine M.go rfl ?_
  refine M.dec rfl (fun _ => ?_) (fun h2 => ?_)
  · refine M.go rfl ?_
    exact M.ret (M.go rfl (M.done (finQ.ret [(0, 0), (1, 1), (2, 2), (3, 3), (4, 4), (5, 5)] rfl rfl rfl (Wk.of rfl) (by repeat' (first | exact True.intro | refine ⟨⟨_, _, _, rfl, rfl, rfl, WkO.rfl⟩, ?_⟩ | refine HeapOK.acc rfl rfl ?_ | refine HeapOK.es rfl rfl ?_)))))
  · refine M.go rfl ?_
    refine M.use (by first | exact True.intro | exact rfl) (glast0_1 room first en o m L lc F c X Y hm ⟨by omega, hf.2⟩) [(0, 0), (1, 1), (2, 2), (3, 3), (4, 4), (5, 5)] rfl rfl rfl (by repeat' (first | exact True.intro | refine ⟨⟨_, _, _, rfl, rfl, rfl, WkO.rfl⟩, ?_⟩ | refine HeapOK.acc rfl rfl ?_ | refine HeapOK.es rfl rfl ?_)) rfl rfl ?_
    refine M.go rfl ?_
    refine M.cond rfl (fun _ => ?_) (fun h3 => absurd (by omega) h3)
    refine M.go rfl ?_
    exact M.ret (M.go rfl (M.done (finQ.ret [(0, 0), (1, 1), (2, 2), (3, 3), (4, 4), (5, 5)] rfl rfl rfl (Wk.of rfl) (by repeat' (first | exact True.intro | refine ⟨⟨_, _, _, rfl, rfl, rfl, WkO.rfl⟩, ?_⟩ | refine HeapOK.acc rfl rfl ?_ | refine HeapOK.es rfl rfl ?_)))))
theorem gget0_y (room first en : Int) (o m : Nat) (L : FS) (lc : Nat) (F : FS) (c : Nat) (X Y : List PC) (hm : m ≤ 100000) (hf : 1 ≤ first ∧ first ≤ 2000000000000000) (j : Nat) (hj : j ≤ m) (n : Int) (hn : n = first + j) (z : Bool) (bs : List Int) (cp : Option Nat) (hX : X[o + j]? = some (fP z bs cp)) (hl : bs.length ≤ 1000000000) : CallS Try.prog base 26 [.c (.ptr 0 0), .c (.p (.int .i64 n))] (hG0 4 5 6 room first en o (m + 1) L lc F c X Y) (.tup [.c (.p (fP z bs none)), .c (.p (.bool true))]) (hG0 4 5 6 room first en o (m + 1) L lc F c X Y) := by
  subst hn
  refine CallS.of noNG lWge.2 rfl (M.start (M.go rfl ?_))
  refine M.use trivial (gfirst0_1 room first en o m L lc F c X Y) [(0, 0), (1, 1), (2, 2), (3, 3), (4, 4), (5, 5)] rfl rfl rfl (by repeat' (first | exact True.intro | refine ⟨⟨_, _, _, rfl, rfl, rfl, WkO.rfl⟩, ?_⟩ | refine HeapOK.acc rfl rfl ?_ | refine HeapOK.es rfl rfl ?_)) rfl rfl ?_
  refine M.go rfl ?_
  refine M.dec rfl (fun hh => absurd hh (by omega)) (fun _ => ?_)
  refine M.go rfl ?_
  refine M.dec rfl (fun hh => absurd hh (by omega)) (fun h2 => ?_)
  refine M.go rfl ?_
  refine M.use (by first | exact True.intro | exact rfl) (glast0_1 room first en o m L lc F c X Y hm ⟨by omega, hf.2⟩) [(0, 0), (1, 1), (2, 2), (3, 3), (4, 4), (5, 5)] rfl rfl rfl (by repeat' (first | exact True.intro | refine ⟨⟨_, _, _, rfl, rfl, rfl, WkO.rfl⟩, ?_⟩ | refine HeapOK.acc rfl rfl ?_ | refine HeapOK.es rfl rfl ?_)) rfl rfl ?_
  refine M.go rfl ?_
  refine M.cond rfl (fun hh => absurd hh (by omega)) (fun h3 => ?_)
  refine M.go rfl ?_
  refine M.regD (MD.go rfl ?_)
  rw [show first + (j : Int) - first = (j : Int) by omega, wr64 (n := (j : Int)) (by omega) (by omega)]
  refine MD.op trivial (SOp.ia1 rfl rfl (by omega)) ?_
  refine MD.op trivial (SOp.ld1A rfl rfl hX rfl rfl rfl) ?_
  refine MD.go rfl ?_
  refine MD.use0 trivial (bcl_spec z (u8P bs) cp (by rw [u8P_len]; omega)) rfl rfl rfl ?_
  refine MD.go rfl ?_
  refine MD.nil mixed (Fnl.nodup rfl) (M.go rfl ?_)
  exact M.ret (M.go rfl (M.done (finQ.ret [(0, 0), (1, 1), (2, 2), (3, 3), (4, 4), (5, 5)] rfl rfl rfl (Wk.t2 Wk.rfl (Wk.b1 rfl)) (by repeat' (first | exact True.intro | refine ⟨⟨_, _, _, rfl, rfl, rfl, WkO.rfl⟩, ?_⟩ | refine HeapOK.acc rfl rfl ?_ | refine HeapOK.es rfl rfl ?_)))))
theorem gsync0_spec (room first en : Int) (o m : Nat) (L : FS) (lc : Nat) (F : FS) (c : Nat) (X Y : List PC) : CallS Try.prog base 22 [.c (.ptr 0 0)] (hG0 4 5 6 room first en o m L lc F c X Y) (.tup []) (hG0s 6 4 5 7 room first en o m F c X Y) := by
  refine CallS.of noNG lWsy.2 rfl (M.start (M.go rfl ?_))
  refine M.use trivial (sync0_spec room L lc F c) [(0, 1), (1, 2), (2, 3)] rfl rfl rfl (by repeat' (first | exact True.intro | refine ⟨⟨_, _, _, rfl, rfl, rfl, WkO.rfl⟩, ?_⟩ | refine HeapOK.acc rfl rfl ?_ | refine HeapOK.es rfl rfl ?_)) rfl rfl ?_
  refine M.go rfl ?_
  exact M.done (finQ.normal [(0, 0), (1, 1), (2, 2), (3, 3), (4, 4), (5, 5), (6, 6)] rfl rfl rfl Wk.rfl (by repeat' (first | exact True.intro | refine ⟨⟨_, _, _, rfl, rfl, rfl, WkO.rfl⟩, ?_⟩ | refine HeapOK.acc rfl rfl ?_ | refine HeapOK.es rfl rfl ?_)))
theorem glast1_0 (room first en : Int) (o : Nat) (L : FS) (lc : Nat) (F : FS) (c : Nat) (w : PC) (W : List PC) (X Y : List PC) : CallS Try.prog base 24 [.c (.ptr 0 0)] (hG1 4 5 6 7 room first en o 0 L lc F c w W X Y) (.c (.p (.int .i64 0))) (hG1 4 5 6 7 room first en o 0 L lc F c w W X Y) := by
  refine CallS.of noNG lWla.2 rfl (M.start (M.go rfl ?_))
  refine M.cond rfl (fun _ => ?_) (fun hn => absurd (by simp) hn)
  refine M.go rfl ?_
  exact M.ret (M.go rfl (M.done (finQ.ret [(0, 0), (1, 1), (2, 2), (3, 3), (4, 4), (5, 5), (6, 6)] rfl rfl rfl (by first | exact Wk.rfl | exact Wk.uncap | exact Wk.nil | exact Wk.b1 rfl | exact Wk.t2 Wk.rfl (Wk.b1 rfl)) (by repeat' (first | exact True.intro | refine ⟨⟨_, _, _, rfl, rfl, rfl, WkO.rfl⟩, ?_⟩ | refine HeapOK.acc rfl rfl ?_ | refine HeapOK.es rfl rfl ?_)))))
theorem glast1_1 (room first en : Int) (o m : Nat) (L : FS) (lc : Nat) (F : FS) (c : Nat) (w : PC) (W : List PC) (X Y : List PC) (hm : m ≤ 100000) (hf : 0 ≤ first ∧ first ≤ 2000000000000000) : CallS Try.prog base 24 [.c (.ptr 0 0)] (hG1 4 5 6 7 room first en o (m + 1) L lc F c w W X Y) (.c (.p (.int .i64 (first + m)))) (hG1 4 5 6 7 room first en o (m + 1) L lc F c w W X Y) := by
  refine CallS.of noNG lWla.2 rfl (M.start (M.go rfl ?_))
  refine M.cond rfl (fun hn => absurd hn (by simp; omega)) (fun _ => ?_)
  refine M.go rfl ?_
  refine M.regD (MD.go rfl ?_)
  refine MD.nil mixed (Fnl.nodup rfl) (M.go rfl ?_)
  rw [show ((m + 1 : Nat) : Int) = (m : Int) + 1 by omega, wr64 (n := first + ((m : Int) + 1)) (by omega) (by omega), show first + ((m : Int) + 1) - 1 = first + m by omega, wr64 (n := first + (m : Int)) (by omega) (by omega)]
  exact M.ret (M.go rfl (M.done (finQ.ret [(0, 0), (1, 1), (2, 2), (3, 3), (4, 4), (5, 5), (6, 6)] rfl rfl rfl (by first | exact Wk.rfl | exact Wk.uncap | exact Wk.nil | exact Wk.b1 rfl | exact Wk.t2 Wk.rfl (Wk.b1 rfl)) (by repeat' (first | exact True.intro | refine ⟨⟨_, _, _, rfl, rfl, rfl, WkO.rfl⟩, ?_⟩ | refine HeapOK.acc rfl rfl ?_ | refine HeapOK.es rfl rfl ?_)))))
theorem gfirst1_0 (room first en : Int) (o : Nat) (L : FS) (lc : Nat) (F : FS) (c : Nat) (w : PC) (W : List PC) (X Y : List PC) : CallS Try.prog base 31 [.c (.ptr 0 0)] (hG1 4 5 6 7 room first en o 0 L lc F c w W X Y) (.c (.p (.int .i64 0))) (hG1 4 5 6 7 room first en o 0 L lc F c w W X Y) := by
  refine CallS.of noNG lWfi.2 rfl (M.start (M.go rfl ?_))
  refine M.cond rfl (fun _ => ?_) (fun hn => absurd (by simp) hn)
  refine M.go rfl ?_
  exact M.ret (M.go rfl (M.done (finQ.ret [(0, 0), (1, 1), (2, 2), (3, 3), (4, 4), (5, 5), (6, 6)] rfl rfl rfl (by first | exact Wk.rfl | exact Wk.uncap | exact Wk.nil | exact Wk.b1 rfl | exact Wk.t2 Wk.rfl (Wk.b1 rfl)) (by repeat' (first | exact True.intro | refine ⟨⟨_, _, _, rfl, rfl, rfl, WkO.rfl⟩, ?_⟩ | refine HeapOK.acc rfl rfl ?_ | refine HeapOK.es rfl rfl ?_)))))
theorem gfirst1_1 (room first en : Int) (o m : Nat) (L : FS) (lc : Nat) (F : FS) (c : Nat) (w : PC) (W : List PC) (X Y : List PC) : CallS Try.prog base 31 [.c (.ptr 0 0)] (hG1 4 5 6 7 room first en o (m + 1) L lc F c w W X Y) (.c (.p (.int .i64 first))) (hG1 4 5 6 7 room first en o (m + 1) L lc F c w W X Y) := by
  refine CallS.of noNG lWfi.2 rfl (M.start (M.go rfl ?_))
  refine M.cond rfl (fun hn => absurd hn (by simp; omega)) (fun _ => ?_)
  refine M.go rfl ?_
  exact M.ret (M.go rfl (M.done (finQ.ret [(0, 0), (1, 1), (2, 2), (3, 3), (4, 4), (5, 5), (6, 6)] rfl rfl rfl (by first | exact Wk.rfl | exact Wk.uncap | exact Wk.nil | exact Wk.b1 rfl | exact Wk.t2 Wk.rfl (Wk.b1 rfl)) (by repeat' (first | exact True.intro | refine ⟨⟨_, _, _, rfl, rfl, rfl, WkO.rfl⟩, ?_⟩ | refine HeapOK.acc rfl rfl ?_ | refine HeapOK.es rfl rfl ?_)))))
theorem gget1_0 (room first en : Int) (o : Nat) (L : FS) (lc : Nat) (F : FS) (c : Nat) (w : PC) (W : List PC) (X Y : List PC) (n : Int) : CallS Try.prog base 26 [.c (.ptr 0 0), .c (.p (.int .i64 n))] (hG1 4 5 6 7 room first en o 0 L lc F c w W X Y) (.tup [.c (.p (.tz true 0 [] none)), .c (.p (.bool false))]) (hG1 4 5 6 7 room first en o 0 L lc F c w W X Y) := by
  refine CallS.of noNG lWge.2 rfl (M.start (M.go rfl ?_))
  refine M.use trivial (gfirst1_0 room first en o  L lc F c w W X Y) [(0, 0), (1, 1), (2, 2), (3, 3), (4, 4), (5, 5), (6, 6)] rfl rfl rfl (by repeat' (first | exact True.intro | refine ⟨⟨_, _, _, rfl, rfl, rfl, WkO.rfl⟩, ?_⟩ | refine HeapOK.acc rfl rfl ?_ | refine HeapOK.es rfl rfl ?_)) rfl rfl ?_
  refine M.go rfl ?_
  refine M.dec rfl (fun _ => ?_) (fun hn => absurd (by decide) hn)
  refine M.go rfl ?_
  exact M.ret (M.go rfl (M.done (finQ.ret [(0, 0), (1, 1), (2, 2), (3, 3), (4, 4), (5, 5), (6, 6)] rfl rfl rfl (Wk.of rfl) (by repeat' (first | exact True.intro | refine ⟨⟨_, _, _, rfl, rfl, rfl, WkO.rfl⟩, ?_⟩ | refine HeapOK.acc rfl rfl ?_ | refine HeapOK.es rfl rfl ?_)))))
theorem gget1_n (room first en : Int) (o m : Nat) (L : FS) (lc : Nat) (F : FS) (c : Nat) (w : PC) (W : List PC) (X Y : List PC) (hm : m ≤ 100000) (hf : 1 ≤ first ∧ first ≤ 2000000000000000) (n : Int) (hn : n < first ∨ first + m < n) : CallS Try.prog base 26 [.c (.ptr 0 0), .c (.p (.int .i64 n))] (hG1 4 5 6 7 room first en o (m + 1) L lc F c w W X Y) (.tup [.c (.p (.tz true 0 [] none)), .c (.p (.bool false))]) (hG1 4 5 6 7 room first en o (m + 1) L lc F c w W X Y) := by
  refine CallS.of noNG lWge.2 rfl (M.start (M.go rfl ?_))
  refine M.use trivial (gfirst1_1 room first en o m L lc F c w W X Y) [(0, 0), (1, 1), (2, 2), (3, 3), (4, 4), (5, 5), (6, 6)] rfl rfl rfl (by repeat' (first | exact True.intro | refine ⟨⟨_, _, _, rfl, rfl, rfl, WkO.rfl⟩, ?_⟩ | refine HeapOK.acc rfl rfl ?_ | refine HeapOK.es rfl rfl ?_)) rfl rfl ?_
  refine M.go rfl ?_
  refine M.dec rfl (fun hh => absurd hh (by omega)) (fun _ => ?_)
  refine M.go rfl ?_
  refine M.dec rfl (fun _ => ?_) (fun h2 => ?_)
  · refine M.go rfl ?_
    exact M.ret (M.go rfl (M.done (finQ.ret [(0, 0), (1, 1), (2, 2), (3, 3), (4, 4), (5, 5), (6, 6)] rfl rfl rfl (Wk.of rfl) (by repeat' (first | exact True.intro | refine ⟨⟨_, _, _, rfl, rfl, rfl, WkO.rfl⟩, ?_⟩ | refine HeapOK.acc rfl rfl ?_ | refine HeapOK.es rfl rfl ?_)))))
  · refine M.go rfl ?_
    refine M.use (by first | exact True.intro | exact rfl) (glast1_1 room first en o m L lc F c w W X Y hm ⟨by omega, hf.2⟩) [(0, 0), (1, 1), (2, 2), (3, 3), (4, 4), (5, 5), (6, 6)] rfl rfl rfl (by repeat' (first | exact True.intro | refine ⟨⟨_, _, _, rfl, rfl, rfl, WkO.rfl⟩, ?_⟩ | refine HeapOK.acc rfl rfl ?_ | refine HeapOK.es rfl rfl ?_)) rfl rfl ?_
    refine M.go rfl ?_
    refine M.cond rfl (fun _ => ?_) (fun h3 => absurd (by omega) h3)
    refine M.go rfl ?_
    exact M.ret (M.go rfl (M.done (finQ.ret [(0, 0), (1, 1), (2, 2), (3, 3), (4, 4), (5, 5), (6, 6)] rfl rfl rfl (Wk.of rfl) (by repeat' (first | exact True.intro | refine ⟨⟨_, _, _, rfl, rfl, rfl, WkO.rfl⟩, ?_⟩ | refine HeapOK.acc rfl rfl ?_ | refine HeapOK.es rfl rfl ?_)))))
theorem gget1_y (room first en : Int) (o m : Nat) (L : FS) (lc : Nat) (F : FS) (c : Nat) (w : PC) (W : List PC) (X Y : List PC) (hm : m ≤ 100000) (hf : 1 ≤ first ∧ first ≤ 2000000000000000) (j : Nat) (hj : j ≤ m) (n : Int) (hn : n = first + j) (z : Bool) (bs : List Int) (cp : Option Nat) (hX : X[o + j]? = some (fP z bs cp)) (hl : bs.length ≤ 1000000000) : CallS Try.prog base 26 [.c (.ptr 0 0), .c (.p (.int .i64 n))] (hG1 4 5 6 7 room first en o (m + 1) L lc F c w W X Y) (.tup [.c (.p (fP z bs none)), .c (.p (.bool true))]) (hG1 4 5 6 7 room first en o (m + 1) L lc F c w W X Y) := by
  subst hn
  refine CallS.of noNG lWge.2 rfl (M.start (M.go rfl ?_))
  refine M.use trivial (gfirst1_1 room first en o m L lc F c w W X Y) [(0, 0), (1, 1), (2, 2), (3, 3), (4, 4), (5, 5), (6, 6)] rfl rfl rfl (by repeat' (first | exact True.intro | refine ⟨⟨_, _, _, rfl, rfl, rfl, WkO.rfl⟩, ?_⟩ | refine HeapOK.acc rfl rfl ?_ | refine HeapOK.es rfl rfl ?_)) rfl rfl ?_
  refine M.go rfl ?_
  refine M.dec rfl (fun hh => absurd hh (by omega)) (fun _ => ?_)
  refine M.go rfl ?_
  refine M.dec rfl (fun hh => absurd hh (by omega)) (fun h2 => ?_)
  refine M.go rfl ?_
  refine M.use (by first | exact True.intro | exact rfl) (glast1_1 room first en o m L lc F c w W X Y hm ⟨by omega, hf.2⟩) [(0, 0), (1, 1), (2, 2), (3, 3), (4, 4), (5, 5), (6, 6)] rfl rfl rfl (by repeat' (first | exact True.intro | refine ⟨⟨_, _, _, rfl, rfl, rfl, WkO.rfl⟩, ?_⟩ | refine HeapOK.acc rfl rfl ?_ | refine HeapOK.es rfl rfl ?_)) rfl rfl ?_
  refine M.go rfl ?_
  refine M.cond rfl (fun hh => absurd hh (by omega)) (fun h3 => ?_)
  refine M.go rfl ?_
  refine M.regD (MD.go rfl ?_)
  rw [show first + (j : Int) - first = (j : Int) by omega, wr64 (n := (j : Int)) (by omega) (by omega)]
  refine MD.op trivial (SOp.ia1 rfl rfl (by omega)) ?_
  refine MD.op trivial (SOp.ld1A rfl rfl hX rfl rfl rfl) ?_
  refine MD.go rfl ?_
  refine MD.use0 trivial (bcl_spec z (u8P bs) cp (by rw [u8P_len]; omega)) rfl rfl rfl ?_
  refine MD.go rfl ?_
  refine MD.nil mixed (Fnl.nodup rfl) (M.go rfl ?_)
  exact M.ret (M.go rfl (M.done (finQ.ret [(0, 0), (1, 1), (2, 2), (3, 3), (4, 4), (5, 5), (6, 6)] rfl rfl rfl (Wk.t2 Wk.rfl (Wk.b1 rfl)) (by repeat' (first | exact True.intro | refine ⟨⟨_, _, _, rfl, rfl, rfl, WkO.rfl⟩, ?_⟩ | refine HeapOK.acc rfl rfl ?_ | refine HeapOK.es rfl rfl ?_)))))
theorem gsync1_spec (room first en : Int) (o m : Nat) (L : FS) (lc : Nat) (F : FS) (c : Nat) (w : PC) (W : List PC) (X Y : List PC) : CallS Try.prog base 22 [.c (.ptr 0 0)] (hG1 4 5 6 7 room first en o m L lc F c w W X Y) (.tup []) (hG0s 7 5 6 8 room first en o m F c X Y) := by
  refine CallS.of noNG lWsy.2 rfl (M.start (M.go rfl ?_))
  refine M.use trivial (sync1_spec room L lc F c w W) [(0, 1), (1, 2), (2, 3), (3, 4)] rfl rfl rfl (by repeat' (first | exact True.intro | refine ⟨⟨_, _, _, rfl, rfl, rfl, WkO.rfl⟩, ?_⟩ | refine HeapOK.acc rfl rfl ?_ | refine HeapOK.es rfl rfl ?_)) rfl rfl ?_
  refine M.go rfl ?_
  exact M.done (finQ.normal [(0, 0), (1, 1), (2, 2), (3, 3), (4, 4), (5, 5), (6, 6), (7, 7)] rfl rfl rfl Wk.rfl (by repeat' (first | exact True.intro | refine ⟨⟨_, _, _, rfl, rfl, rfl, WkO.rfl⟩, ?_⟩ | refine HeapOK.acc rfl rfl ?_ | refine HeapOK.es rfl rfl ?_)))
theorem gaddi_0 (room first en : Int) (o : Nat) (L : FS) (lc : Nat) (F : FS) (c : Nat) (w : PC) (W : List PC) (X Y : List PC) (n : Int) (z : Bool) (b : List Int) (cb : Option Nat) (size : Int) (hXl : o + 0 < X.length) (hYl : o + 0 < Y.length) (hb : b.length ≤ 1000000) (he : 0 ≤ en ∧ en ≤ 1000000000) (hs : 0 ≤ size ∧ size ≤ 1000000000) : CallS Try.prog base 62 [.c (.ptr 0 0), .c (.p (.int .i64 n)), .c (.p (.tz z 1 (u8P b) cb)), .c (.p (.int .i64 size))] (hG1 4 5 6 7 room first en o 0 L lc F c w W X Y) (.tup []) (hG1 4 5 6 7 room n (en + size) o (0 + 1) L lc F c w W (X.set (o + 0) (fP z b none)) (Y.set (o + 0) (.int .i64 en))) := by
  refine CallS.of noNG lAdd.2 rfl (M.start (M.go rfl ?_))
  refine M.cond rfl (fun _ => ?_) (fun hn => absurd (by simp) hn)
  refine M.go rfl ?_
  refine M.regG rfl (MN.go rfl ?_)
  refine MN.use0 (by first | exact True.intro | exact rfl) (bcl_spec z (u8P b) cb (by rw [u8P_len]; omega)) rfl rfl rfl (MN.go rfl ?_)
  refine MN.op rfl (by first | exact True.intro | exact rfl) (SOp.appI1 rfl rfl rfl (.own rfl rfl) hXl (by omega)) (MN.go rfl ?_)
  refine MN.op rfl (by first | exact True.intro | exact rfl) (SOp.appI1 rfl rfl rfl (.own rfl rfl) hYl (by omega)) (MN.go rfl ?_)
  refine MN.nil mixed (Fnl.nodup rfl) rfl ⟨⟨stepX_ok rfl, stepX_ok rfl, trivial⟩, ⟨stepX_ok rfl, stepX_ok rfl, stepX_ok rfl, trivial⟩, ⟨stepX_ok rfl, stepX_ok rfl, stepX_ok rfl, trivial⟩, trivial⟩ (M.go rfl ?_)
  rw [wr64 (n := en + size) (by omega) (by omega)]
  exact M.done (finQ.normal [(0, 0), (1, 1), (2, 2), (3, 3), (4, 4), (5, 5), (6, 6)] rfl rfl rfl Wk.rfl (by repeat' (first | exact True.intro | refine ⟨⟨_, _, _, rfl, rfl, rfl, WkO.rfl⟩, ?_⟩ | refine HeapOK.acc rfl rfl ?_ | refine HeapOK.es rfl rfl ?_)))
theorem gaddi_1 (room first en : Int) (o m : Nat) (L : FS) (lc : Nat) (F : FS) (c : Nat) (w : PC) (W : List PC) (X Y : List PC) (n : Int) (z : Bool) (b : List Int) (cb : Option Nat) (size : Int) (hm : m ≤ 100000) (hXl : o + m < X.length) (hYl : o + m < Y.length) (hb : b.length ≤ 1000000) (he : 0 ≤ en ∧ en ≤ 1000000000) (hs : 0 ≤ size ∧ size ≤ 1000000000) (h0 : 0 < m) : CallS Try.prog base 62 [.c (.ptr 0 0), .c (.p (.int .i64 n)), .c (.p (.tz z 1 (u8P b) cb)), .c (.p (.int .i64 size))] (hG1 4 5 6 7 room first en o m L lc F c w W X Y) (.tup []) (hG1 4 5 6 7 room first (en + size) o (m + 1) L lc F c w W (X.set (o + m) (fP z b none)) (Y.set (o + m) (.int .i64 en))) := by
  refine CallS.of noNG lAdd.2 rfl (M.start (M.go rfl ?_))
  refine M.cond rfl (fun hn => absurd hn (by omega)) (fun _ => ?_)
  refine M.go rfl ?_
  refine M.regG rfl (MN.go rfl ?_)
  refine MN.use0 (by first | exact True.intro | exact rfl) (bcl_spec z (u8P b) cb (by rw [u8P_len]; omega)) rfl rfl rfl (MN.go rfl ?_)
  refine MN.op rfl (by first | exact True.intro | exact rfl) (SOp.appI1 rfl rfl rfl (.own rfl rfl) hXl (by omega)) (MN.go rfl ?_)
  refine MN.op rfl (by first | exact True.intro | exact rfl) (SOp.appI1 rfl rfl rfl (.own rfl rfl) hYl (by omega)) (MN.go rfl ?_)
  refine MN.nil mixed (Fnl.nodup rfl) rfl ⟨⟨stepX_ok rfl, stepX_ok rfl, trivial⟩, ⟨stepX_ok rfl, stepX_ok rfl, stepX_ok rfl, trivial⟩, ⟨stepX_ok rfl, stepX_ok rfl, stepX_ok rfl, trivial⟩, trivial⟩ (M.go rfl ?_)
  rw [wr64 (n := en + size) (by omega) (by omega)]
  exact M.done (finQ.normal [(0, 0), (1, 1), (2, 2), (3, 3), (4, 4), (5, 5), (6, 6)] rfl rfl rfl Wk.rfl (by repeat' (first | exact True.intro | refine ⟨⟨_, _, _, rfl, rfl, rfl, WkO.rfl⟩, ?_⟩ | refine HeapOK.acc rfl rfl ?_ | refine HeapOK.es rfl rfl ?_)))
theorem gaddg_0 (room first en : Int) (o : Nat) (L : FS) (lc : Nat) (F : FS) (c : Nat) (w : PC) (W : List PC) (X Y : List PC) (n : Int) (z : Bool) (b : List Int) (cb : Option Nat) (size : Int) (hXl : o + 0 = X.length) (hYl : o + 0 = Y.length) (hb : b.length ≤ 1000000) (he : 0 ≤ en ∧ en ≤ 1000000000) (hs : 0 ≤ size ∧ size ≤ 1000000000) : CallS Try.prog base 62 [.c (.ptr 0 0), .c (.p (.int .i64 n)), .c (.p (.tz z 1 (u8P b) cb)), .c (.p (.int .i64 size))] (hG1 4 5 6 7 room first en o 0 L lc F c w W X Y) (.tup []) (hG1 4 7 8 9 room n (en + size) 0 (0 + 1) L lc F c w W (X.drop o ++ [fP z b none]) (Y.drop o ++ [.int .i64 en])) := by
  refine CallS.of noNG lAdd.2 rfl (M.start (M.go rfl ?_))
  refine M.cond rfl (fun _ => ?_) (fun hn => absurd (by simp) hn)
  refine M.go rfl ?_
  refine M.regG rfl (MN.go rfl ?_)
  refine MN.use0 (by first | exact True.intro | exact rfl) (bcl_spec z (u8P b) cb (by rw [u8P_len]; omega)) rfl rfl rfl (MN.go rfl ?_)
  refine MN.op rfl (by first | exact True.intro | exact rfl) (SOp.appG1 rfl rfl rfl (.own rfl rfl) hXl (by omega)) (MN.go rfl ?_)
  refine MN.op rfl (by first | exact True.intro | exact rfl) (SOp.appG1 rfl rfl rfl (.own rfl rfl) hYl (by omega)) (MN.go rfl ?_)
  refine MN.nil mixed (Fnl.nodup rfl) rfl ⟨⟨stepX_ok rfl, stepX_ok rfl, trivial⟩, ⟨stepX_ok rfl, stepX_ok rfl, stepX_ok rfl, trivial⟩, ⟨stepX_ok rfl, stepX_ok rfl, stepX_ok rfl, trivial⟩, trivial⟩ (M.go rfl ?_)
  rw [wr64 (n := en + size) (by omega) (by omega)]
  exact M.done (finQ.normal [(0, 0), (1, 1), (2, 2), (3, 3), (4, 4), (5, 5), (6, 6), (7, 33), (8, 34)] rfl rfl rfl Wk.rfl (by repeat' (first | exact True.intro | refine ⟨⟨_, _, _, rfl, rfl, rfl, WkO.rfl⟩, ?_⟩ | refine HeapOK.acc rfl rfl ?_ | refine HeapOK.es rfl rfl ?_)))
theorem gaddg_1 (room first en : Int) (o m : Nat) (L : FS) (lc : Nat) (F : FS) (c : Nat) (w : PC) (W : List PC) (X Y : List PC) (n : Int) (z : Bool) (b : List Int) (cb : Option Nat) (size : Int) (hm : m ≤ 100000) (hXl : o + m = X.length) (hYl : o + m = Y.length) (hb : b.length ≤ 1000000) (he : 0 ≤ en ∧ en ≤ 1000000000) (hs : 0 ≤ size ∧ size ≤ 1000000000) (h0 : 0 < m) : CallS Try.prog base 62 [.c (.ptr 0 0), .c (.p (.int .i64 n)), .c (.p (.tz z 1 (u8P b) cb)), .c (.p (.int .i64 size))] (hG1 4 5 6 7 room first en o m L lc F c w W X Y) (.tup []) (hG1 4 7 8 9 room first (en + size) 0 (m + 1) L lc F c w W (X.drop o ++ [fP z b none]) (Y.drop o ++ [.int .i64 en])) := by
  refine CallS.of noNG lAdd.2 rfl (M.start (M.go rfl ?_))
  refine M.cond rfl (fun hn => absurd hn (by omega)) (fun _ => ?_)
  refine M.go rfl ?_
  refine M.regG rfl (MN.go rfl ?_)
  refine MN.use0 (by first | exact True.intro | exact rfl) (bcl_spec z (u8P b) cb (by rw [u8P_len]; omega)) rfl rfl rfl (MN.go rfl ?_)
  refine MN.op rfl (by first | exact True.intro | exact rfl) (SOp.appG1 rfl rfl rfl (.own rfl rfl) hXl (by omega)) (MN.go rfl ?_)
  refine MN.op rfl (by first | exact True.intro | exact rfl) (SOp.appG1 rfl rfl rfl (.own rfl rfl) hYl (by omega)) (MN.go rfl ?_)
  refine MN.nil mixed (Fnl.nodup rfl) rfl ⟨⟨stepX_ok rfl, stepX_ok rfl, trivial⟩, ⟨stepX_ok rfl, stepX_ok rfl, stepX_ok rfl, trivial⟩, ⟨stepX_ok rfl, stepX_ok rfl, stepX_ok rfl, trivial⟩, trivial⟩ (M.go rfl ?_)
  rw [wr64 (n := en + size) (by omega) (by omega)]
  exact M.done (finQ.normal [(0, 0), (1, 1), (2, 2), (3, 3), (4, 4), (5, 5), (6, 6), (7, 33), (8, 34)] rfl rfl rfl Wk.rfl (by repeat' (first | exact True.intro | refine ⟨⟨_, _, _, rfl, rfl, rfl, WkO.rfl⟩, ?_⟩ | refine HeapOK.acc rfl rfl ?_ | refine HeapOK.es rfl rfl ?_)))
end Go.Proofs.Ytjlfojgacnphmaa

namespace Go.Proofs.Ytjlfojgacnphmaa
open Go.RowKit Sim Go Sym
set_option maxRecDepth 100000
set_option linter.unusedVariables false
set_option linter.unusedSimpArgs false
variable {base : Nat}
theorem rowAcc {m : Nat} {x : PC} {l : List PC} (h : m = (x :: l).length) (s b : Nat) : Wk (.c (.acc b s (x :: l))) (.c (.sl b 0 m s none)) := by subst h; exact Wk.of rfl
def hOG0 (room first en : Int) (m : Nat) (L : FS) (lc : Nat) (F : FS) (c : Nat) (X Y : List PC) : HS := ⟨[(5, some (.els 1 Y)), (4, some (.els 1 X)), (3, some (.row [.ptr 0 0, .p (.int .i64 first), .sl 4 0 m 1 none, .sl 5 0 m 1 none, .p (.int .i64 en)] true)), (2, some (fM F c)), (1, some (fM L lc)), (0, some (.row [.p (.int .i64 room), .mp 1, .mp 2, .p (.tz true 5 [] none)] true))], 6⟩
def hOG1 (room first en : Int) (m : Nat) (L : FS) (lc : Nat) (F : FS) (c : Nat) (w : PC) (W : List PC) (X Y : List PC) : HS := ⟨[(6, some (.els 5 (w :: W))), (5, some (.els 1 Y)), (4, some (.els 1 X)), (3, some (.row [.ptr 0 0, .p (.int .i64 first), .sl 4 0 m 1 none, .sl 5 0 m 1 none, .p (.int .i64 en)] true)), (2, some (fM F c)), (1, some (fM L lc)), (0, some (.row [.p (.int .i64 room), .mp 1, .mp 2, .acc 6 5 (w :: W)] true))], 7⟩
def hO10 (room first en : Int) (L : FS) (lc : Nat) (F : FS) (c : Nat) (w : PC) (W : List PC) : HS := ⟨[(4, some (.els 5 (w :: W))), (3, some (.row [.ptr 0 0, .p (.int .i64 first), .p (.tz true 1 [] none), .p (.tz true 1 [] none), .p (.int .i64 en)] true)), (2, some (fM F c)), (1, some (fM L lc)), (0, some (.row [.p (.int .i64 room), .mp 1, .mp 2, .acc 4 5 (w :: W)] true))], 5⟩
def chC (n : Nat) : PC := .agg (chX 1 [119] [] (fP true [] none) n)
theorem posR_cons (b : List Int) (f : Int) (R : List (List Int)) : posR 0 f (b :: R) = .int .i64 0 :: yP b f R := by rw [posR, yP, Int.zero_add]
theorem gopen_n (room : Int) (L : FS) (lc : Nat) (F : FS) (c : Nat) (f : Int) (b : List Int) (rest : List (List Int)) (h : RecOK f (b :: rest)) (zF : Bool) (cp : Option Nat) (B : List Int) (hBB : Bytes B) (hBl : B.length ≤ 1000000000) (hscan : scan B = (recsR f (b :: rest), (flatR f (b :: rest)).length)) (hT : (flatR f (b :: rest)).length = B.length) (h1 : findP frN F = none) (h2 : findP [119] F = some (fP zF B cp)) : CallS Try.prog base 20 [.c (.ptr 0 0)] (hD0 room L lc F c) (.tup [.c (.ptr 3 0), .c (.p (.int .i64 0))]) (hOG0 room f ((flatR f (b :: rest)).length : Nat) (rest.length + 1) L lc F c (rcsP (b :: rest)) (posR 0 f (b :: rest))) := by
  rw [posR_cons]
  have hBF := flatR_bytes (b :: rest) f h
  have hFl := flatR_len (b :: rest) f h
  have hRl := h.l
  have hf := h.f
  have hsc := scan_spec (base := base) zF B none hBB (by omega)
  rw [hscan] at hsc
  have hsl : (sksP (recsR f (b :: rest))).length = (b :: rest).length := by simp [sksP, recsR_len]
  have hbb := h.b b (by simp)
  have hl := recB_len (n := f) (b := b) (by omega) (by omega) hbb.2
  have hBs := recB_bytes (n := f) hbb.1
  have hn64 : InI64 f := ⟨by omega, by omega⟩
  have hnum := num_rec hn64 b
  have hrok : (⟨false, recB f b, false⟩ : RS).ok := ⟨by show (recB f b).length ≤ _; omega, hBs, fun e => (by cases e), fun e => (by cases e)⟩
  have hrn := rnum_spec (base := base) ⟨false, recB f b, false⟩ hrok
  rw [hnum] at hrn
  have hsn := seal_len (xs := recB f b) (by omega)
  have hu : (sksP (recsR f (b :: rest)))[((0 : Int)).toNat]? = some (skP (recB f b)) := rfl
  have h1f : (flatR f [b]).length = (sealB (recB f b)).length := by simp [flatR]
  refine CallS.of noNG lWop.2 rfl (M.start (M.go rfl ?_))
  refine M.use trivial (remove0_none room L lc F c frN h1) [(0, 0), (1, 1), (2, 2)] rfl rfl rfl (by repeat' (first | exact True.intro | refine ⟨⟨_, _, _, rfl, rfl, rfl, WkO.rfl⟩, ?_⟩ | refine HeapOK.acc rfl rfl ?_ | refine HeapOK.es rfl rfl ?_)) rfl rfl ?_
  refine M.go rfl ?_
  refine M.use trivial (read0_spec room L lc F c [119] zF B cp h2 (by omega)) [(0, 0), (1, 1), (2, 2)] rfl rfl rfl (by repeat' (first | exact True.intro | refine ⟨⟨_, _, _, rfl, rfl, rfl, WkO.rfl⟩, ?_⟩ | refine HeapOK.acc rfl rfl ?_ | refine HeapOK.es rfl rfl ?_)) rfl rfl ?_
  refine M.go rfl ?_
  refine M.use0 trivial hsc rfl rfl rfl ?_
  refine M.go rfl ?_
  refine M.loop (M.round (M.go rfl ?_))
  refine M.cond rfl (fun _ => ?_) (fun hn => absurd (by rw [hsl]; simp) hn)
  refine M.go rfl ?_
  refine M.op trivial (SOp.ia rfl rfl (by omega) hu) ?_
  refine M.op trivial (SOp.ld1e rfl hu rfl rfl rfl) ?_
  refine M.go rfl ?_
  refine M.use trivial (rread_spec false (recB f b) none (by omega)) [] rfl rfl rfl trivial rfl rfl ?_
  refine M.go rfl ?_
  refine M.use trivial hrn [(0, 4)] rfl rfl rfl (by repeat' (first | exact True.intro | refine ⟨⟨_, _, _, rfl, rfl, rfl, WkO.rfl⟩, ?_⟩ | refine HeapOK.acc rfl rfl ?_ | refine HeapOK.es rfl rfl ?_)) rfl rfl ?_
  refine M.go rfl ?_
  refine M.use trivial (rleft_spec ⟨false, b, false⟩) [(0, 4)] rfl rfl rfl (by repeat' (first | exact True.intro | refine ⟨⟨_, _, _, rfl, rfl, rfl, WkO.rfl⟩, ?_⟩ | refine HeapOK.acc rfl rfl ?_ | refine HeapOK.es rfl rfl ?_)) rfl rfl ?_
  refine M.go rfl ?_
  rw [u8P_len (recB f b)]
  have hdr : (recB f b).drop ((recB f b).length - b.length) = b := by rw [recB, List.length_append, Nat.add_sub_cancel]; exact List.drop_left' rfl
  rw [wr64 (n := ((recB f b).length : Int) - (b.length : Int)) (by omega) (by omega)]
  refine M.op trivial (SOp.sl (l := (recB f b).length - b.length) (r := (recB f b).length) rfl ⟨_, _, rfl, by omega, by omega⟩ (u8P_len _).symm (by omega) (by rw [u8P_len]; omega)) ?_
  rw [u8P_drop, hdr, List.take_of_length_le (by rw [u8P_len]; omega)]
  refine M.go rfl ?_
  refine M.use trivial (rok_spec ⟨false, b, false⟩) [(0, 4)] rfl rfl rfl (by repeat' (first | exact True.intro | refine ⟨⟨_, _, _, rfl, rfl, rfl, WkO.rfl⟩, ?_⟩ | refine HeapOK.acc rfl rfl ?_ | refine HeapOK.es rfl rfl ?_)) rfl rfl ?_
  refine M.go rfl ?_
  refine M.decB rfl (fun hn => by cases hn) (fun _ => ?_)
  refine M.go rfl ?_
  refine M.dec rfl (fun hn => absurd hn (by omega)) (fun _ => ?_)
  refine M.go rfl ?_
  refine M.dec rfl (fun hn => absurd hn (by rw [u8P_len]; omega)) (fun _ => ?_)
  refine M.go rfl ?_
  refine M.dec rfl (fun hn => absurd hn (by simp)) (fun _ => ?_)
  refine M.go rfl ?_
  refine M.use0 trivial (sealS_yes false none (recB f b) hBs (by omega)) rfl rfl rfl ?_
  refine M.go rfl ?_
  rw [u8P_len (sealB (recB f b))]
  refine M.shO (Sh.wkH (b0 := 3) (o' := .row [.ptr 0 0, .p (.int .i64 0), .p (.tz true 1 [] none), .p (.tz true 1 [] none), .p (.int .i64 0)] true) rfl rfl (WkO.row ⟨Wk.rfl, Wk.rfl, Wk.nil, Wk.nil, Wk.rfl, trivial⟩) Sh.refl) ?_
  refine M.use trivial (add00_spec room 0 0 L lc F c f false b none ((sealB (recB f b)).length : Int) (by omega) (by omega) ⟨by omega, by omega⟩) [(0, 3), (1, 0), (2, 1), (3, 2)] rfl rfl rfl (by repeat' (first | exact True.intro | refine ⟨⟨_, _, _, rfl, rfl, rfl, WkO.rfl⟩, ?_⟩ | refine HeapOK.acc rfl rfl ?_ | refine HeapOK.es rfl rfl ?_)) rfl rfl ?_
  refine M.go rfl ?_
  rw [hsl, show (0 : Int) + ((sealB (recB f b)).length : Int) = ((flatR f [b]).length : Nat) by rw [h1f]; omega]
  refine M.again (XH.ren [(0, 0), (1, 1), (2, 2), (3, 3), (4, 5), (5, 6)] (open_loop room L lc F c B zF f (b :: rest) h _ (fun b0 pr hp => ?_) rest b [] rfl) rfl (by repeat' (first | exact True.intro | refine ⟨⟨_, _, rfl, rfl, Wk.rfl⟩, ?_⟩ | refine ⟨⟨_, _, accV_ren rfl, rfl, Wk.rfl⟩, ?_⟩ | refine ⟨⟨_, _, accV_ren rfl, rfl, Wk.acc0⟩, ?_⟩ | refine ⟨⟨_, _, rfl, rfl, Wk.uncap⟩, ?_⟩ | refine ⟨⟨_, _, rfl, rfl, Wk.nil⟩, ?_⟩)) (by repeat' (first | exact True.intro | refine ⟨⟨_, _, _, rfl, rfl, rfl, WkO.rfl⟩, ?_⟩ | refine HeapOK.acc rfl rfl ?_ | refine HeapOK.es rfl rfl ?_)))
  obtain ⟨rfl, rfl⟩ := List.cons.inj hp
  refine M.q (M.go rfl (M.done (M.q (M.go rfl ?_))))
  refine M.cond rfl (fun hn => absurd hn (by rw [u8P_len]; omega)) (fun _ => ?_)
  refine M.go rfl ?_
  exact M.ret (M.go rfl (M.done (finQ.ret [(0, 0), (1, 1), (2, 2), (3, 3), (4, 4), (5, 5)] rfl rfl rfl (Wk.of rfl) ⟨⟨_, _, _, rfl, rfl, rfl, WkO.rfl⟩, ⟨_, _, _, rfl, rfl, rfl, WkO.rfl⟩, ⟨_, _, _, rfl, rfl, rfl, WkO.row ⟨Wk.rfl, Wk.rfl, rowAcc (by simp [rcsP]) _ _, rowAcc (by simp [yP_len]) _ _, Wk.rfl, trivial⟩⟩, ⟨_, _, _, rfl, rfl, rfl, WkO.rfl⟩, ⟨_, _, _, rfl, rfl, rfl, WkO.rfl⟩, ⟨_, _, _, rfl, rfl, rfl, WkO.rfl⟩, trivial⟩)))
theorem gopen_t (room : Int) (L : FS) (lc : Nat) (F : FS) (c : Nat) (f : Int) (b : List Int) (rest : List (List Int)) (h : RecOK f (b :: rest)) (zF : Bool) (cp : Option Nat) (B : List Int) (hBB : Bytes B) (hBl : B.length ≤ 1000000000) (hscan : scan B = (recsR f (b :: rest), (flatR f (b :: rest)).length)) (hT : (flatR f (b :: rest)).length < B.length) (h1 : findP frN F = none) (h2 : findP [119] F = some (fP zF B cp)) : CallS Try.prog base 20 [.c (.ptr 0 0)] (hD0 room L lc F c) (.tup [.c (.ptr 3 0), .c (.p (.int .i64 0))]) (hOG1 room f ((flatR f (b :: rest)).length : Nat) (rest.length + 1) L lc (updP [119] (cutF zF B (flatR f (b :: rest)).length) c F) (updPC [119] (cutF zF B (flatR f (b :: rest)).length) c F) (chC (flatR f (b :: rest)).length) [] (rcsP (b :: rest)) (posR 0 f (b :: rest))) := by
  rw [posR_cons]
  have hBF := flatR_bytes (b :: rest) f h
  have hFl := flatR_len (b :: rest) f h
  have hRl := h.l
  have hf := h.f
  have hsc := scan_spec (base := base) zF B none hBB (by omega)
  rw [hscan] at hsc
  have hsl : (sksP (recsR f (b :: rest))).length = (b :: rest).length := by simp [sksP, recsR_len]
  have hbb := h.b b (by simp)
  have hl := recB_len (n := f) (b := b) (by omega) (by omega) hbb.2
  have hBs := recB_bytes (n := f) hbb.1
  have hn64 : InI64 f := ⟨by omega, by omega⟩
  have hnum := num_rec hn64 b
  have hrok : (⟨false, recB f b, false⟩ : RS).ok := ⟨by show (recB f b).length ≤ _; omega, hBs, fun e => (by cases e), fun e => (by cases e)⟩
  have hrn := rnum_spec (base := base) ⟨false, recB f b, false⟩ hrok
  rw [hnum] at hrn
  have hsn := seal_len (xs := recB f b) (by omega)
  have hu : (sksP (recsR f (b :: rest)))[((0 : Int)).toNat]? = some (skP (recB f b)) := rfl
  have h1f : (flatR f [b]).length = (sealB (recB f b)).length := by simp [flatR]
  refine CallS.of noNG lWop.2 rfl (M.start (M.go rfl ?_))
  refine M.use trivial (remove0_none room L lc F c frN h1) [(0, 0), (1, 1), (2, 2)] rfl rfl rfl (by repeat' (first | exact True.intro | refine ⟨⟨_, _, _, rfl, rfl, rfl, WkO.rfl⟩, ?_⟩ | refine HeapOK.acc rfl rfl ?_ | refine HeapOK.es rfl rfl ?_)) rfl rfl ?_
  refine M.go rfl ?_
  refine M.use trivial (read0_spec room L lc F c [119] zF B cp h2 (by omega)) [(0, 0), (1, 1), (2, 2)] rfl rfl rfl (by repeat' (first | exact True.intro | refine ⟨⟨_, _, _, rfl, rfl, rfl, WkO.rfl⟩, ?_⟩ | refine HeapOK.acc rfl rfl ?_ | refine HeapOK.es rfl rfl ?_)) rfl rfl ?_
  refine M.go rfl ?_
  refine M.use0 trivial hsc rfl rfl rfl ?_
  refine M.go rfl ?_
  refine M.loop (M.round (M.go rfl ?_))
  refine M.cond rfl (fun _ => ?_) (fun hn => absurd (by rw [hsl]; simp) hn)
  refine M.go rfl ?_
  refine M.op trivial (SOp.ia rfl rfl (by omega) hu) ?_
  refine M.op trivial (SOp.ld1e rfl hu rfl rfl rfl) ?_
  refine M.go rfl ?_
  refine M.use trivial (rread_spec false (recB f b) none (by omega)) [] rfl rfl rfl trivial rfl rfl ?_
  refine M.go rfl ?_
  refine M.use trivial hrn [(0, 4)] rfl rfl rfl (by repeat' (first | exact True.intro | refine ⟨⟨_, _, _, rfl, rfl, rfl, WkO.rfl⟩, ?_⟩ | refine HeapOK.acc rfl rfl ?_ | refine HeapOK.es rfl rfl ?_)) rfl rfl ?_
  refine M.go rfl ?_
  refine M.use trivial (rleft_spec ⟨false, b, false⟩) [(0, 4)] rfl rfl rfl (by repeat' (first | exact True.intro | refine ⟨⟨_, _, _, rfl, rfl, rfl, WkO.rfl⟩, ?_⟩ | refine HeapOK.acc rfl rfl ?_ | refine HeapOK.es rfl rfl ?_)) rfl rfl ?_
  refine M.go rfl ?_
  rw [u8P_len (recB f b)]
  have hdr : (recB f b).drop ((recB f b).length - b.length) = b := by rw [recB, List.length_append, Nat.add_sub_cancel]; exact List.drop_left' rfl
  rw [wr64 (n := ((recB f b).length : Int) - (b.length : Int)) (by omega) (by omega)]
  refine M.op trivial (SOp.sl (l := (recB f b).length - b.length) (r := (recB f b).length) rfl ⟨_, _, rfl, by omega, by omega⟩ (u8P_len _).symm (by omega) (by rw [u8P_len]; omega)) ?_
  rw [u8P_drop, hdr, List.take_of_length_le (by rw [u8P_len]; omega)]
  refine M.go rfl ?_
  refine M.use trivial (rok_spec ⟨false, b, false⟩) [(0, 4)] rfl rfl rfl (by repeat' (first | exact True.intro | refine ⟨⟨_, _, _, rfl, rfl, rfl, WkO.rfl⟩, ?_⟩ | refine HeapOK.acc rfl rfl ?_ | refine HeapOK.es rfl rfl ?_)) rfl rfl ?_
  refine M.go rfl ?_
  refine M.decB rfl (fun hn => by cases hn) (fun _ => ?_)
  refine M.go rfl ?_
  refine M.dec rfl (fun hn => absurd hn (by omega)) (fun _ => ?_)
  refine M.go rfl ?_
  refine M.dec rfl (fun hn => absurd hn (by rw [u8P_len]; omega)) (fun _ => ?_)
  refine M.go rfl ?_
  refine M.dec rfl (fun hn => absurd hn (by simp)) (fun _ => ?_)
  refine M.go rfl ?_
  refine M.use0 trivial (sealS_yes false none (recB f b) hBs (by omega)) rfl rfl rfl ?_
  refine M.go rfl ?_
  rw [u8P_len (sealB (recB f b))]
  refine M.shO (Sh.wkH (b0 := 3) (o' := .row [.ptr 0 0, .p (.int .i64 0), .p (.tz true 1 [] none), .p (.tz true 1 [] none), .p (.int .i64 0)] true) rfl rfl (WkO.row ⟨Wk.rfl, Wk.rfl, Wk.nil, Wk.nil, Wk.rfl, trivial⟩) Sh.refl) ?_
  refine M.use trivial (add00_spec room 0 0 L lc F c f false b none ((sealB (recB f b)).length : Int) (by omega) (by omega) ⟨by omega, by omega⟩) [(0, 3), (1, 0), (2, 1), (3, 2)] rfl rfl rfl (by repeat' (first | exact True.intro | refine ⟨⟨_, _, _, rfl, rfl, rfl, WkO.rfl⟩, ?_⟩ | refine HeapOK.acc rfl rfl ?_ | refine HeapOK.es rfl rfl ?_)) rfl rfl ?_
  refine M.go rfl ?_
  rw [hsl, show (0 : Int) + ((sealB (recB f b)).length : Int) = ((flatR f [b]).length : Nat) by rw [h1f]; omega]
  refine M.again (XH.ren [(0, 0), (1, 1), (2, 2), (3, 3), (4, 5), (5, 6)] (open_loop room L lc F c B zF f (b :: rest) h _ (fun b0 pr hp => ?_) rest b [] rfl) rfl (by repeat' (first | exact True.intro | refine ⟨⟨_, _, rfl, rfl, Wk.rfl⟩, ?_⟩ | refine ⟨⟨_, _, accV_ren rfl, rfl, Wk.rfl⟩, ?_⟩ | refine ⟨⟨_, _, accV_ren rfl, rfl, Wk.acc0⟩, ?_⟩ | refine ⟨⟨_, _, rfl, rfl, Wk.uncap⟩, ?_⟩ | refine ⟨⟨_, _, rfl, rfl, Wk.nil⟩, ?_⟩)) (by repeat' (first | exact True.intro | refine ⟨⟨_, _, _, rfl, rfl, rfl, WkO.rfl⟩, ?_⟩ | refine HeapOK.acc rfl rfl ?_ | refine HeapOK.es rfl rfl ?_)))
  obtain ⟨rfl, rfl⟩ := List.cons.inj hp
  refine M.q (M.go rfl (M.done (M.q (M.go rfl ?_))))
  refine M.cond rfl (fun _ => ?_) (fun hn => absurd (by rw [u8P_len]; omega) hn)
  refine M.go rfl ?_
  refine M.use trivial (cut0_spec room L lc F c [119] (flatR f (b :: rest)).length zF B cp h2 (by omega)) [(0, 0), (1, 1), (2, 2)] rfl rfl rfl (by repeat' (first | exact True.intro | refine ⟨⟨_, _, _, rfl, rfl, rfl, WkO.rfl⟩, ?_⟩ | refine HeapOK.acc rfl rfl ?_ | refine HeapOK.es rfl rfl ?_)) rfl rfl ?_
  refine M.go rfl ?_
  exact M.ret (M.go rfl (M.done (finQ.ret [(0, 0), (1, 1), (2, 2), (3, 3), (4, 4), (5, 5), (6, 6)] rfl rfl rfl (Wk.of rfl) ⟨⟨_, _, _, rfl, rfl, rfl, WkO.rfl⟩, ⟨_, _, _, rfl, rfl, rfl, WkO.rfl⟩, ⟨_, _, _, rfl, rfl, rfl, WkO.rfl⟩, ⟨_, _, _, rfl, rfl, rfl, WkO.row ⟨Wk.rfl, Wk.rfl, rowAcc (by simp [rcsP]) _ _, rowAcc (by simp [yP_len]) _ _, Wk.rfl, trivial⟩⟩, ⟨_, _, _, rfl, rfl, rfl, WkO.rfl⟩, ⟨_, _, _, rfl, rfl, rfl, WkO.rfl⟩, ⟨_, _, _, rfl, rfl, rfl, WkO.rfl⟩, trivial⟩)))
theorem gopen_e (room : Int) (L : FS) (lc : Nat) (F : FS) (c : Nat) (zF : Bool) (cp : Option Nat) (B : List Int) (hBB : Bytes B) (hBl : B.length ≤ 1000000000) (hscan : scan B = ([], 0)) (hT : B.length = 0) (h1 : findP frN F = none) (h2 : findP [119] F = some (fP zF B cp)) : CallS Try.prog base 20 [.c (.ptr 0 0)] (hD0 room L lc F c) (.tup [.c (.ptr 3 0), .c (.p (.int .i64 0))]) (hO0 room 0 0 L lc F c) := by
  have hsc := scan_spec (base := base) zF B none hBB (by omega)
  rw [hscan] at hsc
  refine CallS.of noNG lWop.2 rfl (M.start (M.go rfl ?_))
  refine M.use trivial (remove0_none room L lc F c frN h1) [(0, 0), (1, 1), (2, 2)] rfl rfl rfl (by repeat' (first | exact True.intro | refine ⟨⟨_, _, _, rfl, rfl, rfl, WkO.rfl⟩, ?_⟩ | refine HeapOK.acc rfl rfl ?_ | refine HeapOK.es rfl rfl ?_)) rfl rfl ?_
  refine M.go rfl ?_
  refine M.use trivial (read0_spec room L lc F c [119] zF B cp h2 (by omega)) [(0, 0), (1, 1), (2, 2)] rfl rfl rfl (by repeat' (first | exact True.intro | refine ⟨⟨_, _, _, rfl, rfl, rfl, WkO.rfl⟩, ?_⟩ | refine HeapOK.acc rfl rfl ?_ | refine HeapOK.es rfl rfl ?_)) rfl rfl ?_
  refine M.go rfl ?_
  refine M.use0 trivial hsc rfl rfl rfl ?_
  refine M.go rfl ?_
  refine M.loop (M.round (M.go rfl ?_))
  refine M.cond rfl (fun hn => absurd hn (by decide)) (fun _ => ?_)
  refine M.exit (M.go rfl (M.done (M.q (M.go rfl ?_))))
  refine M.cond rfl (fun hn => absurd hn (by rw [u8P_len]; omega)) (fun _ => ?_)
  refine M.go rfl ?_
  exact M.ret (M.go rfl (M.done (finQ.ret [(0, 0), (1, 1), (2, 2), (3, 3)] rfl rfl rfl (Wk.of rfl) ⟨⟨_, _, _, rfl, rfl, rfl, WkO.row ⟨Wk.rfl, Wk.rfl, Wk.nil, Wk.nil, Wk.rfl, trivial⟩⟩, ⟨_, _, _, rfl, rfl, rfl, WkO.rfl⟩, ⟨_, _, _, rfl, rfl, rfl, WkO.rfl⟩, ⟨_, _, _, rfl, rfl, rfl, WkO.rfl⟩, trivial⟩)))
theorem gopen_et (room : Int) (L : FS) (lc : Nat) (F : FS) (c : Nat) (zF : Bool) (cp : Option Nat) (B : List Int) (hBB : Bytes B) (hBl : B.length ≤ 1000000000) (hscan : scan B = ([], 0)) (hT : 0 < B.length) (h1 : findP frN F = none) (h2 : findP [119] F = some (fP zF B cp)) : CallS Try.prog base 20 [.c (.ptr 0 0)] (hD0 room L lc F c) (.tup [.c (.ptr 3 0), .c (.p (.int .i64 0))]) (hO10 room 0 0 L lc (updP [119] (cutF zF B 0) c F) (updPC [119] (cutF zF B 0) c F) (chC 0) []) := by
  have hsc := scan_spec (base := base) zF B none hBB (by omega)
  rw [hscan] at hsc
  refine CallS.of noNG lWop.2 rfl (M.start (M.go rfl ?_))
  refine M.use trivial (remove0_none room L lc F c frN h1) [(0, 0), (1, 1), (2, 2)] rfl rfl rfl (by repeat' (first | exact True.intro | refine ⟨⟨_, _, _, rfl, rfl, rfl, WkO.rfl⟩, ?_⟩ | refine HeapOK.acc rfl rfl ?_ | refine HeapOK.es rfl rfl ?_)) rfl rfl ?_
  refine M.go rfl ?_
  refine M.use trivial (read0_spec room L lc F c [119] zF B cp h2 (by omega)) [(0, 0), (1, 1), (2, 2)] rfl rfl rfl (by repeat' (first | exact True.intro | refine ⟨⟨_, _, _, rfl, rfl, rfl, WkO.rfl⟩, ?_⟩ | refine HeapOK.acc rfl rfl ?_ | refine HeapOK.es rfl rfl ?_)) rfl rfl ?_
  refine M.go rfl ?_
  refine M.use0 trivial hsc rfl rfl rfl ?_
  refine M.go rfl ?_
  refine M.loop (M.round (M.go rfl ?_))
  refine M.cond rfl (fun hn => absurd hn (by decide)) (fun _ => ?_)
  refine M.exit (M.go rfl (M.done (M.q (M.go rfl ?_))))
  refine M.cond rfl (fun _ => ?_) (fun hn => absurd (by rw [u8P_len]; omega) hn)
  refine M.go rfl ?_
  refine M.use trivial (cut0_spec room L lc F c [119] 0 zF B cp h2 (by omega)) [(0, 0), (1, 1), (2, 2)] rfl rfl rfl (by repeat' (first | exact True.intro | refine ⟨⟨_, _, _, rfl, rfl, rfl, WkO.rfl⟩, ?_⟩ | refine HeapOK.acc rfl rfl ?_ | refine HeapOK.es rfl rfl ?_)) rfl rfl ?_
  refine M.go rfl ?_
  exact M.ret (M.go rfl (M.done (finQ.ret [(0, 0), (1, 1), (2, 2), (3, 3), (4, 4)] rfl rfl rfl (Wk.of rfl) ⟨⟨_, _, _, rfl, rfl, rfl, WkO.rfl⟩, ⟨_, _, _, rfl, rfl, rfl, WkO.row ⟨Wk.rfl, Wk.rfl, Wk.nil, Wk.nil, Wk.rfl, trivial⟩⟩, ⟨_, _, _, rfl, rfl, rfl, WkO.rfl⟩, ⟨_, _, _, rfl, rfl, rfl, WkO.rfl⟩, ⟨_, _, _, rfl, rfl, rfl, WkO.rfl⟩, trivial⟩)))
end Go.Proofs.Ytjlfojgacnphmaa

namespace Go.Proofs.Ytjlfojgacnphmaa
open Go.RowKit Sim Go Sym
set_option maxRecDepth 100000
set_option linter.unusedVariables false
set_option linter.unusedSimpArgs false
variable {base : Nat}
def chA (b : List Int) : PC := .agg (chX 0 [119] [] (fP false b none) 0)

noncomputable def lWfr : {F : LF // lowerF Try.prog 25 = some F} := ⟨_, rfl⟩
theorem gapp0i0_spec (room first en : Int) (o : Nat) (L : FS) (lc : Nat) (F : FS) (c : Nat) (X Y : List PC) (n : Int) (hn1 : 1 ≤ n ∧ n ≤ 2000000000000000) (hXl : o + 0 < X.length) (hYl : o + 0 < Y.length) (z : Bool) (b : List Int) (cb : Option Nat) (hB : Bytes b) (hb : b.length ≤ 30000) (he : 0 ≤ en ∧ en ≤ 1000000000) (hF : FOK F c) (hr : room ≤ 100000000000) (hroom : ((usedN F + (sealB (recB n b)).length : Nat) : Int) ≤ room) (hfile : (findP [119] F).isSome = true ∨ F.length < 64) (F2 : FS) (c2 : Nat)
    (hdo : CallS Try.prog base 66 [.c (.mp 0), .agg ((chX 0 [119] [] (fP false (sealB (recB n b)) none) 0).map XC.p), .c (.p (.int .i64 (sealB (recB n b)).length))] ⟨[(0, some (fM F c))], 1⟩ (.tup []) ⟨[(0, some (fM F2 c2))], 1⟩) :
    CallS Try.prog base 21 [.c (.ptr 0 0), .c (.p (.int .i64 n)), .c (.p (.tz z 1 (u8P b) cb))] (hG0 4 5 6 room first en o 0 L lc F c X Y) (.c (.p (.int .i64 0))) (hG1 6 4 5 7 room n (en + (sealB (recB n b)).length) o (0 + 1) L lc F2 c2 ((chA (sealB (recB n b)))) ([]) (X.set (o + 0) (fP z b none)) (Y.set (o + 0) (.int .i64 en))) := by
  have hlb : (u8P b).length = b.length := u8P_len b
  have hnB := numB_len (n := n) (by omega) (by omega)
  have hrl : (recB n b).length ≤ 65536 := by simp [recB]; omega
  have hsl : (sealB (recB n b)).length = 8 + (recB n b).length := seal_len hrl
  have hsl2 : (sealB (recB n b)).length ≤ 40000 := by rw [hsl]; simp [recB]; omega
  refine CallS.of noNG lWap.2 rfl (M.start (M.go rfl ?_))
  refine M.dec rfl (fun hn => absurd hn (by omega)) (fun _ => ?_)
  refine M.go rfl ?_
  refine M.dec rfl (fun hn => absurd hn (by simp)) (fun _ => ?_)
  refine M.go rfl ?_
  refine M.cond rfl (fun hn => absurd hn (by rw [hlb]; omega)) (fun _ => ?_)
  refine M.go rfl ?_
  refine M.use0 trivial (wseal_spec n ⟨by omega, by omega⟩ z b cb hB hrl) rfl rfl rfl ?_
  refine M.go rfl ?_
  refine M.use trivial (append0_spec room L lc F c [119] false (sealB (recB n b)) none may_w hF hr hroom hfile F2 c2 hdo) [(0, 1), (1, 2), (2, 3)] rfl rfl rfl (by repeat' (first | exact True.intro | refine ⟨⟨_, _, _, rfl, rfl, rfl, WkO.rfl⟩, ?_⟩ | refine HeapOK.acc rfl rfl ?_ | refine HeapOK.es rfl rfl ?_)) rfl rfl ?_
  refine M.go rfl ?_
  refine M.condN rfl (fun hn => absurd rfl hn) (fun _ => ?_)
  refine M.go rfl ?_
  rw [u8P_len]
  refine M.use trivial (gaddi_0 room first en o  L lc F2 c2 (chA (sealB (recB n b))) [] X Y n z b cb ((sealB (recB n b)).length : Int)  hXl hYl (by omega) he ⟨by omega, by omega⟩) [(0, 0), (1, 1), (2, 2), (3, 3), (4, 6), (5, 4), (6, 5)] rfl rfl rfl (by repeat' (first | exact True.intro | refine ⟨⟨_, _, _, rfl, rfl, rfl, WkO.rfl⟩, ?_⟩ | refine HeapOK.acc rfl rfl ?_ | refine HeapOK.es rfl rfl ?_)) rfl rfl ?_
  refine M.go rfl ?_
  exact M.ret (M.go rfl (M.done (finQ.ret [(0, 0), (1, 1), (2, 2), (3, 3), (4, 4), (5, 5), (6, 6)] rfl rfl rfl (by first | exact Wk.rfl | exact Wk.uncap | exact Wk.nil | exact Wk.b1 rfl | exact Wk.t2 Wk.rfl (Wk.b1 rfl)) (by repeat' (first | exact True.intro | refine ⟨⟨_, _, _, rfl, rfl, rfl, WkO.rfl⟩, ?_⟩ | refine HeapOK.acc rfl rfl ?_ | refine HeapOK.es rfl rfl ?_)))))
theorem gapp0i1_spec (room first en : Int) (o m : Nat) (L : FS) (lc : Nat) (F : FS) (c : Nat) (X Y : List PC) (n : Int) (hn1 : 1 ≤ n ∧ n ≤ 2000000000000000) (hnl : n = first + m) (hXl : o + m < X.length) (hYl : o + m < Y.length) (hm : m ≤ 100000) (h0 : 0 < m) (hf : 0 ≤ first ∧ first ≤ 1000000000000000) (z : Bool) (b : List Int) (cb : Option Nat) (hB : Bytes b) (hb : b.length ≤ 30000) (he : 0 ≤ en ∧ en ≤ 1000000000) (hF : FOK F c) (hr : room ≤ 100000000000) (hroom : ((usedN F + (sealB (recB n b)).length : Nat) : Int) ≤ room) (hfile : (findP [119] F).isSome = true ∨ F.length < 64) (F2 : FS) (c2 : Nat)
    (hdo : CallS Try.prog base 66 [.c (.mp 0), .agg ((chX 0 [119] [] (fP false (sealB (recB n b)) none) 0).map XC.p), .c (.p (.int .i64 (sealB (recB n b)).length))] ⟨[(0, some (fM F c))], 1⟩ (.tup []) ⟨[(0, some (fM F2 c2))], 1⟩) :
    CallS Try.prog base 21 [.c (.ptr 0 0), .c (.p (.int .i64 n)), .c (.p (.tz z 1 (u8P b) cb))] (hG0 4 5 6 room first en o m L lc F c X Y) (.c (.p (.int .i64 0))) (hG1 6 4 5 7 room first (en + (sealB (recB n b)).length) o (m + 1) L lc F2 c2 ((chA (sealB (recB n b)))) ([]) (X.set (o + m) (fP z b none)) (Y.set (o + m) (.int .i64 en))) := by
  have hlb : (u8P b).length = b.length := u8P_len b
  have hnB := numB_len (n := n) (by omega) (by omega)
  have hrl : (recB n b).length ≤ 65536 := by simp [recB]; omega
  have hsl : (sealB (recB n b)).length = 8 + (recB n b).length := seal_len hrl
  have hsl2 : (sealB (recB n b)).length ≤ 40000 := by rw [hsl]; simp [recB]; omega
  refine CallS.of noNG lWap.2 rfl (M.start (M.go rfl ?_))
  refine M.dec rfl (fun hn => absurd hn (by omega)) (fun _ => ?_)
  refine M.go rfl ?_
  refine M.dec rfl (fun _ => ?_) (fun hn => absurd (by omega) hn)
  refine M.go rfl ?_
  obtain ⟨m, rfl⟩ : ∃ j, m = j + 1 := ⟨m - 1, by omega⟩
  refine M.use (by first | exact True.intro | exact rfl) (glast0_1 room first en o m L lc F c X Y (by omega) ⟨hf.1, by omega⟩) [(0, 0), (1, 1), (2, 2), (3, 3), (4, 4), (5, 5)] rfl rfl rfl (by repeat' (first | exact True.intro | refine ⟨⟨_, _, _, rfl, rfl, rfl, WkO.rfl⟩, ?_⟩ | refine HeapOK.acc rfl rfl ?_ | refine HeapOK.es rfl rfl ?_)) rfl rfl ?_
  refine M.go rfl ?_
  rw [wr64 (n := first + (m : Int) + 1) (by omega) (by omega)]
  refine M.condN rfl (fun hn => absurd (by omega) hn) (fun _ => ?_)
  refine M.go rfl ?_
  refine M.cond rfl (fun hn => absurd hn (by rw [hlb]; omega)) (fun _ => ?_)
  refine M.go rfl ?_
  refine M.use0 trivial (wseal_spec n ⟨by omega, by omega⟩ z b cb hB hrl) rfl rfl rfl ?_
  refine M.go rfl ?_
  refine M.use trivial (append0_spec room L lc F c [119] false (sealB (recB n b)) none may_w hF hr hroom hfile F2 c2 hdo) [(0, 1), (1, 2), (2, 3)] rfl rfl rfl (by repeat' (first | exact True.intro | refine ⟨⟨_, _, _, rfl, rfl, rfl, WkO.rfl⟩, ?_⟩ | refine HeapOK.acc rfl rfl ?_ | refine HeapOK.es rfl rfl ?_)) rfl rfl ?_
  refine M.go rfl ?_
  refine M.condN rfl (fun hn => absurd rfl hn) (fun _ => ?_)
  refine M.go rfl ?_
  rw [u8P_len]
  refine M.use trivial (gaddi_1 room first en o (m + 1) L lc F2 c2 (chA (sealB (recB n b))) [] X Y n z b cb ((sealB (recB n b)).length : Int) hm hXl hYl (by omega) he ⟨by omega, by omega⟩ h0) [(0, 0), (1, 1), (2, 2), (3, 3), (4, 6), (5, 4), (6, 5)] rfl rfl rfl (by repeat' (first | exact True.intro | refine ⟨⟨_, _, _, rfl, rfl, rfl, WkO.rfl⟩, ?_⟩ | refine HeapOK.acc rfl rfl ?_ | refine HeapOK.es rfl rfl ?_)) rfl rfl ?_
  refine M.go rfl ?_
  exact M.ret (M.go rfl (M.done (finQ.ret [(0, 0), (1, 1), (2, 2), (3, 3), (4, 4), (5, 5), (6, 6)] rfl rfl rfl (by first | exact Wk.rfl | exact Wk.uncap | exact Wk.nil | exact Wk.b1 rfl | exact Wk.t2 Wk.rfl (Wk.b1 rfl)) (by repeat' (first | exact True.intro | refine ⟨⟨_, _, _, rfl, rfl, rfl, WkO.rfl⟩, ?_⟩ | refine HeapOK.acc rfl rfl ?_ | refine HeapOK.es rfl rfl ?_)))))
theorem gapp0g0_spec (room first en : Int) (o : Nat) (L : FS) (lc : Nat) (F : FS) (c : Nat) (X Y : List PC) (n : Int) (hn1 : 1 ≤ n ∧ n ≤ 2000000000000000) (hXl : o + 0 = X.length) (hYl : o + 0 = Y.length) (z : Bool) (b : List Int) (cb : Option Nat) (hB : Bytes b) (hb : b.length ≤ 30000) (he : 0 ≤ en ∧ en ≤ 1000000000) (hF : FOK F c) (hr : room ≤ 100000000000) (hroom : ((usedN F + (sealB (recB n b)).length : Nat) : Int) ≤ room) (hfile : (findP [119] F).isSome = true ∨ F.length < 64) (F2 : FS) (c2 : Nat)
    (hdo : CallS Try.prog base 66 [.c (.mp 0), .agg ((chX 0 [119] [] (fP false (sealB (recB n b)) none) 0).map XC.p), .c (.p (.int .i64 (sealB (recB n b)).length))] ⟨[(0, some (fM F c))], 1⟩ (.tup []) ⟨[(0, some (fM F2 c2))], 1⟩) :
    CallS Try.prog base 21 [.c (.ptr 0 0), .c (.p (.int .i64 n)), .c (.p (.tz z 1 (u8P b) cb))] (hG0 4 5 6 room first en o 0 L lc F c X Y) (.c (.p (.int .i64 0))) (hG1 6 7 8 9 room n (en + (sealB (recB n b)).length) 0 (0 + 1) L lc F2 c2 ((chA (sealB (recB n b)))) ([]) (X.drop o ++ [fP z b none]) (Y.drop o ++ [.int .i64 en])) := by
  have hlb : (u8P b).length = b.length := u8P_len b
  have hnB := numB_len (n := n) (by omega) (by omega)
  have hrl : (recB n b).length ≤ 65536 := by simp [recB]; omega
  have hsl : (sealB (recB n b)).length = 8 + (recB n b).length := seal_len hrl
  have hsl2 : (sealB (recB n b)).length ≤ 40000 := by rw [hsl]; simp [recB]; omega
  refine CallS.of noNG lWap.2 rfl (M.start (M.go rfl ?_))
  refine M.dec rfl (fun hn => absurd hn (by omega)) (fun _ => ?_)
  refine M.go rfl ?_
  refine M.dec rfl (fun hn => absurd hn (by simp)) (fun _ => ?_)
  refine M.go rfl ?_
  refine M.cond rfl (fun hn => absurd hn (by rw [hlb]; omega)) (fun _ => ?_)
  refine M.go rfl ?_
  refine M.use0 trivial (wseal_spec n ⟨by omega, by omega⟩ z b cb hB hrl) rfl rfl rfl ?_
  refine M.go rfl ?_
  refine M.use trivial (append0_spec room L lc F c [119] false (sealB (recB n b)) none may_w hF hr hroom hfile F2 c2 hdo) [(0, 1), (1, 2), (2, 3)] rfl rfl rfl (by repeat' (first | exact True.intro | refine ⟨⟨_, _, _, rfl, rfl, rfl, WkO.rfl⟩, ?_⟩ | refine HeapOK.acc rfl rfl ?_ | refine HeapOK.es rfl rfl ?_)) rfl rfl ?_
  refine M.go rfl ?_
  refine M.condN rfl (fun hn => absurd rfl hn) (fun _ => ?_)
  refine M.go rfl ?_
  rw [u8P_len]
  refine M.use trivial (gaddg_0 room first en o  L lc F2 c2 (chA (sealB (recB n b))) [] X Y n z b cb ((sealB (recB n b)).length : Int)  hXl hYl (by omega) he ⟨by omega, by omega⟩) [(0, 0), (1, 1), (2, 2), (3, 3), (4, 6), (5, 4), (6, 5)] rfl rfl rfl (by repeat' (first | exact True.intro | refine ⟨⟨_, _, _, rfl, rfl, rfl, WkO.rfl⟩, ?_⟩ | refine HeapOK.acc rfl rfl ?_ | refine HeapOK.es rfl rfl ?_)) rfl rfl ?_
  refine M.go rfl ?_
  exact M.ret (M.go rfl (M.done (finQ.ret [(0, 0), (1, 1), (2, 2), (3, 3), (4, 4), (5, 5), (6, 6), (7, 7), (8, 8)] rfl rfl rfl (by first | exact Wk.rfl | exact Wk.uncap | exact Wk.nil | exact Wk.b1 rfl | exact Wk.t2 Wk.rfl (Wk.b1 rfl)) (by repeat' (first | exact True.intro | refine ⟨⟨_, _, _, rfl, rfl, rfl, WkO.rfl⟩, ?_⟩ | refine HeapOK.acc rfl rfl ?_ | refine HeapOK.es rfl rfl ?_)))))
theorem gapp0g1_spec (room first en : Int) (o m : Nat) (L : FS) (lc : Nat) (F : FS) (c : Nat) (X Y : List PC) (n : Int) (hn1 : 1 ≤ n ∧ n ≤ 2000000000000000) (hnl : n = first + m) (hXl : o + m = X.length) (hYl : o + m = Y.length) (hm : m ≤ 100000) (h0 : 0 < m) (hf : 0 ≤ first ∧ first ≤ 1000000000000000) (z : Bool) (b : List Int) (cb : Option Nat) (hB : Bytes b) (hb : b.length ≤ 30000) (he : 0 ≤ en ∧ en ≤ 1000000000) (hF : FOK F c) (hr : room ≤ 100000000000) (hroom : ((usedN F + (sealB (recB n b)).length : Nat) : Int) ≤ room) (hfile : (findP [119] F).isSome = true ∨ F.length < 64) (F2 : FS) (c2 : Nat)
    (hdo : CallS Try.prog base 66 [.c (.mp 0), .agg ((chX 0 [119] [] (fP false (sealB (recB n b)) none) 0).map XC.p), .c (.p (.int .i64 (sealB (recB n b)).length))] ⟨[(0, some (fM F c))], 1⟩ (.tup []) ⟨[(0, some (fM F2 c2))], 1⟩) :
    CallS Try.prog base 21 [.c (.ptr 0 0), .c (.p (.int .i64 n)), .c (.p (.tz z 1 (u8P b) cb))] (hG0 4 5 6 room first en o m L lc F c X Y) (.c (.p (.int .i64 0))) (hG1 6 7 8 9 room first (en + (sealB (recB n b)).length) 0 (m + 1) L lc F2 c2 ((chA (sealB (recB n b)))) ([]) (X.drop o ++ [fP z b none]) (Y.drop o ++ [.int .i64 en])) := by
  have hlb : (u8P b).length = b.length := u8P_len b
  have hnB := numB_len (n := n) (by omega) (by omega)
  have hrl : (recB n b).length ≤ 65536 := by simp [recB]; omega
  have hsl : (sealB (recB n b)).length = 8 + (recB n b).length := seal_len hrl
  have hsl2 : (sealB (recB n b)).length ≤ 40000 := by rw [hsl]; simp [recB]; omega
  refine CallS.of noNG lWap.2 rfl (M.start (M.go rfl ?_))
  refine M.dec rfl (fun hn => absurd hn (by omega)) (fun _ => ?_)
  refine M.go rfl ?_
  refine M.dec rfl (fun _ => ?_) (fun hn => absurd (by omega) hn)
  refine M.go rfl ?_
  obtain ⟨m, rfl⟩ : ∃ j, m = j + 1 := ⟨m - 1, by omega⟩
  refine M.use (by first | exact True.intro | exact rfl) (glast0_1 room first en o m L lc F c X Y (by omega) ⟨hf.1, by omega⟩) [(0, 0), (1, 1), (2, 2), (3, 3), (4, 4), (5, 5)] rfl rfl rfl (by repeat' (first | exact True.intro | refine ⟨⟨_, _, _, rfl, rfl, rfl, WkO.rfl⟩, ?_⟩ | refine HeapOK.acc rfl rfl ?_ | refine HeapOK.es rfl rfl ?_)) rfl rfl ?_
  refine M.go rfl ?_
  rw [wr64 (n := first + (m : Int) + 1) (by omega) (by omega)]
  refine M.condN rfl (fun hn => absurd (by omega) hn) (fun _ => ?_)
  refine M.go rfl ?_
  refine M.cond rfl (fun hn => absurd hn (by rw [hlb]; omega)) (fun _ => ?_)
  refine M.go rfl ?_
  refine M.use0 trivial (wseal_spec n ⟨by omega, by omega⟩ z b cb hB hrl) rfl rfl rfl ?_
  refine M.go rfl ?_
  refine M.use trivial (append0_spec room L lc F c [119] false (sealB (recB n b)) none may_w hF hr hroom hfile F2 c2 hdo) [(0, 1), (1, 2), (2, 3)] rfl rfl rfl (by repeat' (first | exact True.intro | refine ⟨⟨_, _, _, rfl, rfl, rfl, WkO.rfl⟩, ?_⟩ | refine HeapOK.acc rfl rfl ?_ | refine HeapOK.es rfl rfl ?_)) rfl rfl ?_
  refine M.go rfl ?_
  refine M.condN rfl (fun hn => absurd rfl hn) (fun _ => ?_)
  refine M.go rfl ?_
  rw [u8P_len]
  refine M.use trivial (gaddg_1 room first en o (m + 1) L lc F2 c2 (chA (sealB (recB n b))) [] X Y n z b cb ((sealB (recB n b)).length : Int) hm hXl hYl (by omega) he ⟨by omega, by omega⟩ h0) [(0, 0), (1, 1), (2, 2), (3, 3), (4, 6), (5, 4), (6, 5)] rfl rfl rfl (by repeat' (first | exact True.intro | refine ⟨⟨_, _, _, rfl, rfl, rfl, WkO.rfl⟩, ?_⟩ | refine HeapOK.acc rfl rfl ?_ | refine HeapOK.es rfl rfl ?_)) rfl rfl ?_
  refine M.go rfl ?_
  exact M.ret (M.go rfl (M.done (finQ.ret [(0, 0), (1, 1), (2, 2), (3, 3), (4, 4), (5, 5), (6, 6), (7, 7), (8, 8)] rfl rfl rfl (by first | exact Wk.rfl | exact Wk.uncap | exact Wk.nil | exact Wk.b1 rfl | exact Wk.t2 Wk.rfl (Wk.b1 rfl)) (by repeat' (first | exact True.intro | refine ⟨⟨_, _, _, rfl, rfl, rfl, WkO.rfl⟩, ?_⟩ | refine HeapOK.acc rfl rfl ?_ | refine HeapOK.es rfl rfl ?_)))))
theorem gapp1i0_spec (room first en : Int) (o : Nat) (L : FS) (lc : Nat) (F : FS) (c : Nat) (w : PC) (W : List PC) (X Y : List PC) (n : Int) (hn1 : 1 ≤ n ∧ n ≤ 2000000000000000) (hXl : o + 0 < X.length) (hYl : o + 0 < Y.length) (hW : W.length ≤ 1000000) (z : Bool) (b : List Int) (cb : Option Nat) (hB : Bytes b) (hb : b.length ≤ 30000) (he : 0 ≤ en ∧ en ≤ 1000000000) (hF : FOK F c) (hr : room ≤ 100000000000) (hroom : ((usedN F + (sealB (recB n b)).length : Nat) : Int) ≤ room) (hfile : (findP [119] F).isSome = true ∨ F.length < 64) (F2 : FS) (c2 : Nat)
    (hdo : CallS Try.prog base 66 [.c (.mp 0), .agg ((chX 0 [119] [] (fP false (sealB (recB n b)) none) 0).map XC.p), .c (.p (.int .i64 (sealB (recB n b)).length))] ⟨[(0, some (fM F c))], 1⟩ (.tup []) ⟨[(0, some (fM F2 c2))], 1⟩) :
    CallS Try.prog base 21 [.c (.ptr 0 0), .c (.p (.int .i64 n)), .c (.p (.tz z 1 (u8P b) cb))] (hG1 4 5 6 7 room first en o 0 L lc F c w W X Y) (.c (.p (.int .i64 0))) (hG1 7 5 6 8 room n (en + (sealB (recB n b)).length) o (0 + 1) L lc F2 c2 w (W ++ [(chA (sealB (recB n b)))]) (X.set (o + 0) (fP z b none)) (Y.set (o + 0) (.int .i64 en))) := by
  have hlb : (u8P b).length = b.length := u8P_len b
  have hnB := numB_len (n := n) (by omega) (by omega)
  have hrl : (recB n b).length ≤ 65536 := by simp [recB]; omega
  have hsl : (sealB (recB n b)).length = 8 + (recB n b).length := seal_len hrl
  have hsl2 : (sealB (recB n b)).length ≤ 40000 := by rw [hsl]; simp [recB]; omega
  refine CallS.of noNG lWap.2 rfl (M.start (M.go rfl ?_))
  refine M.dec rfl (fun hn => absurd hn (by omega)) (fun _ => ?_)
  refine M.go rfl ?_
  refine M.dec rfl (fun hn => absurd hn (by simp)) (fun _ => ?_)
  refine M.go rfl ?_
  refine M.cond rfl (fun hn => absurd hn (by rw [hlb]; omega)) (fun _ => ?_)
  refine M.go rfl ?_
  refine M.use0 trivial (wseal_spec n ⟨by omega, by omega⟩ z b cb hB hrl) rfl rfl rfl ?_
  refine M.go rfl ?_
  refine M.use trivial (append1_spec room L lc F c w W hW [119] false (sealB (recB n b)) none may_w hF hr hroom hfile F2 c2 hdo) [(0, 1), (1, 2), (2, 3), (3, 4)] rfl rfl rfl (by repeat' (first | exact True.intro | refine ⟨⟨_, _, _, rfl, rfl, rfl, WkO.rfl⟩, ?_⟩ | refine HeapOK.acc rfl rfl ?_ | refine HeapOK.es rfl rfl ?_)) rfl rfl ?_
  refine M.go rfl ?_
  refine M.condN rfl (fun hn => absurd rfl hn) (fun _ => ?_)
  refine M.go rfl ?_
  rw [u8P_len]
  refine M.use trivial (gaddi_0 room first en o  L lc F2 c2 w (W ++ [(chA (sealB (recB n b)))]) X Y n z b cb ((sealB (recB n b)).length : Int)  hXl hYl (by omega) he ⟨by omega, by omega⟩) [(0, 0), (1, 1), (2, 2), (3, 3), (4, 7), (5, 5), (6, 6)] rfl rfl rfl (by repeat' (first | exact True.intro | refine ⟨⟨_, _, _, rfl, rfl, rfl, WkO.rfl⟩, ?_⟩ | refine HeapOK.acc rfl rfl ?_ | refine HeapOK.es rfl rfl ?_)) rfl rfl ?_
  refine M.go rfl ?_
  exact M.ret (M.go rfl (M.done (finQ.ret [(0, 0), (1, 1), (2, 2), (3, 3), (4, 4), (5, 5), (6, 6), (7, 7)] rfl rfl rfl (by first | exact Wk.rfl | exact Wk.uncap | exact Wk.nil | exact Wk.b1 rfl | exact Wk.t2 Wk.rfl (Wk.b1 rfl)) (by repeat' (first | exact True.intro | refine ⟨⟨_, _, _, rfl, rfl, rfl, WkO.rfl⟩, ?_⟩ | refine HeapOK.acc rfl rfl ?_ | refine HeapOK.es rfl rfl ?_)))))
theorem gapp1i1_spec (room first en : Int) (o m : Nat) (L : FS) (lc : Nat) (F : FS) (c : Nat) (w : PC) (W : List PC) (X Y : List PC) (n : Int) (hn1 : 1 ≤ n ∧ n ≤ 2000000000000000) (hnl : n = first + m) (hXl : o + m < X.length) (hYl : o + m < Y.length) (hm : m ≤ 100000) (h0 : 0 < m) (hf : 0 ≤ first ∧ first ≤ 1000000000000000) (hW : W.length ≤ 1000000) (z : Bool) (b : List Int) (cb : Option Nat) (hB : Bytes b) (hb : b.length ≤ 30000) (he : 0 ≤ en ∧ en ≤ 1000000000) (hF : FOK F c) (hr : room ≤ 100000000000) (hroom : ((usedN F + (sealB (recB n b)).length : Nat) : Int) ≤ room) (hfile : (findP [119] F).isSome = true ∨ F.length < 64) (F2 : FS) (c2 : Nat)
    (hdo : CallS Try.prog base 66 [.c (.mp 0), .agg ((chX 0 [119] [] (fP false (sealB (recB n b)) none) 0).map XC.p), .c (.p (.int .i64 (sealB (recB n b)).length))] ⟨[(0, some (fM F c))], 1⟩ (.tup []) ⟨[(0, some (fM F2 c2))], 1⟩) :
    CallS Try.prog base 21 [.c (.ptr 0 0), .c (.p (.int .i64 n)), .c (.p (.tz z 1 (u8P b) cb))] (hG1 4 5 6 7 room first en o m L lc F c w W X Y) (.c (.p (.int .i64 0))) (hG1 7 5 6 8 room first (en + (sealB (recB n b)).length) o (m + 1) L lc F2 c2 w (W ++ [(chA (sealB (recB n b)))]) (X.set (o + m) (fP z b none)) (Y.set (o + m) (.int .i64 en))) := by
  have hlb : (u8P b).length = b.length := u8P_len b
  have hnB := numB_len (n := n) (by omega) (by omega)
  have hrl : (recB n b).length ≤ 65536 := by simp [recB]; omega
  have hsl : (sealB (recB n b)).length = 8 + (recB n b).length := seal_len hrl
  have hsl2 : (sealB (recB n b)).length ≤ 40000 := by rw [hsl]; simp [recB]; omega
  refine CallS.of noNG lWap.2 rfl (M.start (M.go rfl ?_))
  refine M.dec rfl (fun hn => absurd hn (by omega)) (fun _ => ?_)
  refine M.go rfl ?_
  refine M.dec rfl (fun _ => ?_) (fun hn => absurd (by omega) hn)
  refine M.go rfl ?_
  obtain ⟨m, rfl⟩ : ∃ j, m = j + 1 := ⟨m - 1, by omega⟩
  refine M.use (by first | exact True.intro | exact rfl) (glast1_1 room first en o m L lc F c w W X Y (by omega) ⟨hf.1, by omega⟩) [(0, 0), (1, 1), (2, 2), (3, 3), (4, 4), (5, 5), (6, 6)] rfl rfl rfl (by repeat' (first | exact True.intro | refine ⟨⟨_, _, _, rfl, rfl, rfl, WkO.rfl⟩, ?_⟩ | refine HeapOK.acc rfl rfl ?_ | refine HeapOK.es rfl rfl ?_)) rfl rfl ?_
  refine M.go rfl ?_
  rw [wr64 (n := first + (m : Int) + 1) (by omega) (by omega)]
  refine M.condN rfl (fun hn => absurd (by omega) hn) (fun _ => ?_)
  refine M.go rfl ?_
  refine M.cond rfl (fun hn => absurd hn (by rw [hlb]; omega)) (fun _ => ?_)
  refine M.go rfl ?_
  refine M.use0 trivial (wseal_spec n ⟨by omega, by omega⟩ z b cb hB hrl) rfl rfl rfl ?_
  refine M.go rfl ?_
  refine M.use trivial (append1_spec room L lc F c w W hW [119] false (sealB (recB n b)) none may_w hF hr hroom hfile F2 c2 hdo) [(0, 1), (1, 2), (2, 3), (3, 4)] rfl rfl rfl (by repeat' (first | exact True.intro | refine ⟨⟨_, _, _, rfl, rfl, rfl, WkO.rfl⟩, ?_⟩ | refine HeapOK.acc rfl rfl ?_ | refine HeapOK.es rfl rfl ?_)) rfl rfl ?_
  refine M.go rfl ?_
  refine M.condN rfl (fun hn => absurd rfl hn) (fun _ => ?_)
  refine M.go rfl ?_
  rw [u8P_len]
  refine M.use trivial (gaddi_1 room first en o (m + 1) L lc F2 c2 w (W ++ [(chA (sealB (recB n b)))]) X Y n z b cb ((sealB (recB n b)).length : Int) hm hXl hYl (by omega) he ⟨by omega, by omega⟩ h0) [(0, 0), (1, 1), (2, 2), (3, 3), (4, 7), (5, 5), (6, 6)] rfl rfl rfl (by repeat' (first | exact True.intro | refine ⟨⟨_, _, _, rfl, rfl, rfl, WkO.rfl⟩, ?_⟩ | refine HeapOK.acc rfl rfl ?_ | refine HeapOK.es rfl rfl ?_)) rfl rfl ?_
  refine M.go rfl ?_
  exact M.ret (M.go rfl (M.done (finQ.ret [(0, 0), (1, 1), (2, 2), (3, 3), (4, 4), (5, 5), (6, 6), (7, 7)] rfl rfl rfl (by first | exact Wk.rfl | exact Wk.uncap | exact Wk.nil | exact Wk.b1 rfl | exact Wk.t2 Wk.rfl (Wk.b1 rfl)) (by repeat' (first | exact True.intro | refine ⟨⟨_, _, _, rfl, rfl, rfl, WkO.rfl⟩, ?_⟩ | refine HeapOK.acc rfl rfl ?_ | refine HeapOK.es rfl rfl ?_)))))
theorem gapp1g0_spec (room first en : Int) (o : Nat) (L : FS) (lc : Nat) (F : FS) (c : Nat) (w : PC) (W : List PC) (X Y : List PC) (n : Int) (hn1 : 1 ≤ n ∧ n ≤ 2000000000000000) (hXl : o + 0 = X.length) (hYl : o + 0 = Y.length) (hW : W.length ≤ 1000000) (z : Bool) (b : List Int) (cb : Option Nat) (hB : Bytes b) (hb : b.length ≤ 30000) (he : 0 ≤ en ∧ en ≤ 1000000000) (hF : FOK F c) (hr : room ≤ 100000000000) (hroom : ((usedN F + (sealB (recB n b)).length : Nat) : Int) ≤ room) (hfile : (findP [119] F).isSome = true ∨ F.length < 64) (F2 : FS) (c2 : Nat)
    (hdo : CallS Try.prog base 66 [.c (.mp 0), .agg ((chX 0 [119] [] (fP false (sealB (recB n b)) none) 0).map XC.p), .c (.p (.int .i64 (sealB (recB n b)).length))] ⟨[(0, some (fM F c))], 1⟩ (.tup []) ⟨[(0, some (fM F2 c2))], 1⟩) :
    CallS Try.prog base 21 [.c (.ptr 0 0), .c (.p (.int .i64 n)), .c (.p (.tz z 1 (u8P b) cb))] (hG1 4 5 6 7 room first en o 0 L lc F c w W X Y) (.c (.p (.int .i64 0))) (hG1 7 8 9 10 room n (en + (sealB (recB n b)).length) 0 (0 + 1) L lc F2 c2 w (W ++ [(chA (sealB (recB n b)))]) (X.drop o ++ [fP z b none]) (Y.drop o ++ [.int .i64 en])) := by
  have hlb : (u8P b).length = b.length := u8P_len b
  have hnB := numB_len (n := n) (by omega) (by omega)
  have hrl : (recB n b).length ≤ 65536 := by simp [recB]; omega
  have hsl : (sealB (recB n b)).length = 8 + (recB n b).length := seal_len hrl
  have hsl2 : (sealB (recB n b)).length ≤ 40000 := by rw [hsl]; simp [recB]; omega
  refine CallS.of noNG lWap.2 rfl (M.start (M.go rfl ?_))
  refine M.dec rfl (fun hn => absurd hn (by omega)) (fun _ => ?_)
  refine M.go rfl ?_
  refine M.dec rfl (fun hn => absurd hn (by simp)) (fun _ => ?_)
  refine M.go rfl ?_
  refine M.cond rfl (fun hn => absurd hn (by rw [hlb]; omega)) (fun _ => ?_)
  refine M.go rfl ?_
  refine M.use0 trivial (wseal_spec n ⟨by omega, by omega⟩ z b cb hB hrl) rfl rfl rfl ?_
  refine M.go rfl ?_
  refine M.use trivial (append1_spec room L lc F c w W hW [119] false (sealB (recB n b)) none may_w hF hr hroom hfile F2 c2 hdo) [(0, 1), (1, 2), (2, 3), (3, 4)] rfl rfl rfl (by repeat' (first | exact True.intro | refine ⟨⟨_, _, _, rfl, rfl, rfl, WkO.rfl⟩, ?_⟩ | refine HeapOK.acc rfl rfl ?_ | refine HeapOK.es rfl rfl ?_)) rfl rfl ?_
  refine M.go rfl ?_
  refine M.condN rfl (fun hn => absurd rfl hn) (fun _ => ?_)
  refine M.go rfl ?_
  rw [u8P_len]
  refine M.use trivial (gaddg_0 room first en o  L lc F2 c2 w (W ++ [(chA (sealB (recB n b)))]) X Y n z b cb ((sealB (recB n b)).length : Int)  hXl hYl (by omega) he ⟨by omega, by omega⟩) [(0, 0), (1, 1), (2, 2), (3, 3), (4, 7), (5, 5), (6, 6)] rfl rfl rfl (by repeat' (first | exact True.intro | refine ⟨⟨_, _, _, rfl, rfl, rfl, WkO.rfl⟩, ?_⟩ | refine HeapOK.acc rfl rfl ?_ | refine HeapOK.es rfl rfl ?_)) rfl rfl ?_
  refine M.go rfl ?_
  exact M.ret (M.go rfl (M.done (finQ.ret [(0, 0), (1, 1), (2, 2), (3, 3), (4, 4), (5, 5), (6, 6), (7, 7), (8, 8), (9, 9)] rfl rfl rfl (by first | exact Wk.rfl | exact Wk.uncap | exact Wk.nil | exact Wk.b1 rfl | exact Wk.t2 Wk.rfl (Wk.b1 rfl)) (by repeat' (first | exact True.intro | refine ⟨⟨_, _, _, rfl, rfl, rfl, WkO.rfl⟩, ?_⟩ | refine HeapOK.acc rfl rfl ?_ | refine HeapOK.es rfl rfl ?_)))))
theorem gapp1g1_spec (room first en : Int) (o m : Nat) (L : FS) (lc : Nat) (F : FS) (c : Nat) (w : PC) (W : List PC) (X Y : List PC) (n : Int) (hn1 : 1 ≤ n ∧ n ≤ 2000000000000000) (hnl : n = first + m) (hXl : o + m = X.length) (hYl : o + m = Y.length) (hm : m ≤ 100000) (h0 : 0 < m) (hf : 0 ≤ first ∧ first ≤ 1000000000000000) (hW : W.length ≤ 1000000) (z : Bool) (b : List Int) (cb : Option Nat) (hB : Bytes b) (hb : b.length ≤ 30000) (he : 0 ≤ en ∧ en ≤ 1000000000) (hF : FOK F c) (hr : room ≤ 100000000000) (hroom : ((usedN F + (sealB (recB n b)).length : Nat) : Int) ≤ room) (hfile : (findP [119] F).isSome = true ∨ F.length < 64) (F2 : FS) (c2 : Nat)
    (hdo : CallS Try.prog base 66 [.c (.mp 0), .agg ((chX 0 [119] [] (fP false (sealB (recB n b)) none) 0).map XC.p), .c (.p (.int .i64 (sealB (recB n b)).length))] ⟨[(0, some (fM F c))], 1⟩ (.tup []) ⟨[(0, some (fM F2 c2))], 1⟩) :
    CallS Try.prog base 21 [.c (.ptr 0 0), .c (.p (.int .i64 n)), .c (.p (.tz z 1 (u8P b) cb))] (hG1 4 5 6 7 room first en o m L lc F c w W X Y) (.c (.p (.int .i64 0))) (hG1 7 8 9 10 room first (en + (sealB (recB n b)).length) 0 (m + 1) L lc F2 c2 w (W ++ [(chA (sealB (recB n b)))]) (X.drop o ++ [fP z b none]) (Y.drop o ++ [.int .i64 en])) := by
  have hlb : (u8P b).length = b.length := u8P_len b
  have hnB := numB_len (n := n) (by omega) (by omega)
  have hrl : (recB n b).length ≤ 65536 := by simp [recB]; omega
  have hsl : (sealB (recB n b)).length = 8 + (recB n b).length := seal_len hrl
  have hsl2 : (sealB (recB n b)).length ≤ 40000 := by rw [hsl]; simp [recB]; omega
  refine CallS.of noNG lWap.2 rfl (M.start (M.go rfl ?_))
  refine M.dec rfl (fun hn => absurd hn (by omega)) (fun _ => ?_)
  refine M.go rfl ?_
  refine M.dec rfl (fun _ => ?_) (fun hn => absurd (by omega) hn)
  refine M.go rfl ?_
  obtain ⟨m, rfl⟩ : ∃ j, m = j + 1 := ⟨m - 1, by omega⟩
  refine M.use (by first | exact True.intro | exact rfl) (glast1_1 room first en o m L lc F c w W X Y (by omega) ⟨hf.1, by omega⟩) [(0, 0), (1, 1), (2, 2), (3, 3), (4, 4), (5, 5), (6, 6)] rfl rfl rfl (by repeat' (first | exact True.intro | refine ⟨⟨_, _, _, rfl, rfl, rfl, WkO.rfl⟩, ?_⟩ | refine HeapOK.acc rfl rfl ?_ | refine HeapOK.es rfl rfl ?_)) rfl rfl ?_
  refine M.go rfl ?_
  rw [wr64 (n := first + (m : Int) + 1) (by omega) (by omega)]
  refine M.condN rfl (fun hn => absurd (by omega) hn) (fun _ => ?_)
  refine M.go rfl ?_
  refine M.cond rfl (fun hn => absurd hn (by rw [hlb]; omega)) (fun _ => ?_)
  refine M.go rfl ?_
  refine M.use0 trivial (wseal_spec n ⟨by omega, by omega⟩ z b cb hB hrl) rfl rfl rfl ?_
  refine M.go rfl ?_
  refine M.use trivial (append1_spec room L lc F c w W hW [119] false (sealB (recB n b)) none may_w hF hr hroom hfile F2 c2 hdo) [(0, 1), (1, 2), (2, 3), (3, 4)] rfl rfl rfl (by repeat' (first | exact True.intro | refine ⟨⟨_, _, _, rfl, rfl, rfl, WkO.rfl⟩, ?_⟩ | refine HeapOK.acc rfl rfl ?_ | refine HeapOK.es rfl rfl ?_)) rfl rfl ?_
  refine M.go rfl ?_
  refine M.condN rfl (fun hn => absurd rfl hn) (fun _ => ?_)
  refine M.go rfl ?_
  rw [u8P_len]
  refine M.use trivial (gaddg_1 room first en o (m + 1) L lc F2 c2 w (W ++ [(chA (sealB (recB n b)))]) X Y n z b cb ((sealB (recB n b)).length : Int) hm hXl hYl (by omega) he ⟨by omega, by omega⟩ h0) [(0, 0), (1, 1), (2, 2), (3, 3), (4, 7), (5, 5), (6, 6)] rfl rfl rfl (by repeat' (first | exact True.intro | refine ⟨⟨_, _, _, rfl, rfl, rfl, WkO.rfl⟩, ?_⟩ | refine HeapOK.acc rfl rfl ?_ | refine HeapOK.es rfl rfl ?_)) rfl rfl ?_
  refine M.go rfl ?_
  exact M.ret (M.go rfl (M.done (finQ.ret [(0, 0), (1, 1), (2, 2), (3, 3), (4, 4), (5, 5), (6, 6), (7, 7), (8, 8), (9, 9)] rfl rfl rfl (by first | exact Wk.rfl | exact Wk.uncap | exact Wk.nil | exact Wk.b1 rfl | exact Wk.t2 Wk.rfl (Wk.b1 rfl)) (by repeat' (first | exact True.intro | refine ⟨⟨_, _, _, rfl, rfl, rfl, WkO.rfl⟩, ?_⟩ | refine HeapOK.acc rfl rfl ?_ | refine HeapOK.es rfl rfl ?_)))))
theorem gfrom0_0 (room first en : Int) (o : Nat) (L : FS) (lc : Nat) (F : FS) (c : Nat) (X Y : List PC) (n : Int) (hn : 1 ≤ n) : CallS Try.prog base 25 [.c (.ptr 0 0), .c (.p (.int .i64 n))] (hG0 4 5 6 room first en o 0 L lc F c X Y) (.c (.p (.int .i64 0))) (hG0 4 5 6 room first en o 0 L lc F c X Y) := by
  refine CallS.of noNG lWfr.2 rfl (M.start (M.go rfl ?_))
  refine M.cond rfl (fun hh => absurd hh (by omega)) (fun _ => ?_)
  refine M.go rfl ?_
  refine M.dec rfl (fun _ => ?_) (fun hn => absurd (by simp) hn)
  refine M.go rfl ?_
  exact M.ret (M.go rfl (M.done (finQ.ret [(0, 0), (1, 1), (2, 2), (3, 3), (4, 4), (5, 5)] rfl rfl rfl (by first | exact Wk.rfl | exact Wk.uncap | exact Wk.nil | exact Wk.b1 rfl | exact Wk.t2 Wk.rfl (Wk.b1 rfl)) (by repeat' (first | exact True.intro | refine ⟨⟨_, _, _, rfl, rfl, rfl, WkO.rfl⟩, ?_⟩ | refine HeapOK.acc rfl rfl ?_ | refine HeapOK.es rfl rfl ?_)))))
theorem gfrom0_n (room first en : Int) (o m : Nat) (L : FS) (lc : Nat) (F : FS) (c : Nat) (X Y : List PC) (n : Int) (hn : 1 ≤ n) (hm : m ≤ 100000) (hf : 0 ≤ first ∧ first ≤ 2000000000000000) (hl : first + m < n) : CallS Try.prog base 25 [.c (.ptr 0 0), .c (.p (.int .i64 n))] (hG0 4 5 6 room first en o (m + 1) L lc F c X Y) (.c (.p (.int .i64 0))) (hG0 4 5 6 room first en o (m + 1) L lc F c X Y) := by
  refine CallS.of noNG lWfr.2 rfl (M.start (M.go rfl ?_))
  refine M.cond rfl (fun hh => absurd hh (by omega)) (fun _ => ?_)
  refine M.go rfl ?_
  refine M.dec rfl (fun hh => absurd hh (by omega)) (fun _ => ?_)
  refine M.go rfl ?_
  refine M.use (by first | exact True.intro | exact rfl) (glast0_1 room first en o m L lc F c X Y hm hf) [(0, 0), (1, 1), (2, 2), (3, 3), (4, 4), (5, 5)] rfl rfl rfl (by repeat' (first | exact True.intro | refine ⟨⟨_, _, _, rfl, rfl, rfl, WkO.rfl⟩, ?_⟩ | refine HeapOK.acc rfl rfl ?_ | refine HeapOK.es rfl rfl ?_)) rfl rfl ?_
  refine M.go rfl ?_
  refine M.cond rfl (fun _ => ?_) (fun hn => absurd (by omega) hn)
  refine M.go rfl ?_
  exact M.ret (M.go rfl (M.done (finQ.ret [(0, 0), (1, 1), (2, 2), (3, 3), (4, 4), (5, 5)] rfl rfl rfl (by first | exact Wk.rfl | exact Wk.uncap | exact Wk.nil | exact Wk.b1 rfl | exact Wk.t2 Wk.rfl (Wk.b1 rfl)) (by repeat' (first | exact True.intro | refine ⟨⟨_, _, _, rfl, rfl, rfl, WkO.rfl⟩, ?_⟩ | refine HeapOK.acc rfl rfl ?_ | refine HeapOK.es rfl rfl ?_)))))
theorem gfrom0_y (room first en : Int) (o m : Nat) (L : FS) (lc : Nat) (F : FS) (c : Nat) (X Y : List PC) (n : Int) (hn : 1 ≤ n ∧ n ≤ 2000000000000000) (hm : m ≤ 100000) (hf : 0 ≤ first ∧ first ≤ 2000000000000000) (hl : n ≤ first + m) (k p : Nat) (hk : (k : Int) = if n - first < 0 then 0 else n - first) (z : Bool) (old : List Int) (oc : Option Nat) (hold : findP [119] F = some (fP z old oc)) (hp : p ≤ old.length) (hY : Y[o + k]? = some (.int .i64 (p : Nat))) :
    CallS Try.prog base 25 [.c (.ptr 0 0), .c (.p (.int .i64 n))] (hG0 4 5 6 room first en o (m + 1) L lc F c X Y) (.c (.p (.int .i64 0))) (hG1 6 4 5 7 room first ((p : Nat)) o k L lc (updP [119] (cutF z old p) c F) (updPC [119] (cutF z old p) c F) (chC p) ([]) X Y) := by
  have hkm : k ≤ m := by split at hk <;> omega
  have hmx : maxI (IntKind.i64.wrap (n - first)) 0 = (k : Int) := by
    rw [wr64 (n := n - first) (by omega) (by omega)]
    unfold maxI
    split at hk <;> split <;> omega
  refine CallS.of noNG lWfr.2 rfl (M.start (M.go rfl ?_))
  refine M.cond rfl (fun hh => absurd hh (by omega)) (fun _ => ?_)
  refine M.go rfl ?_
  refine M.dec rfl (fun hh => absurd hh (by omega)) (fun _ => ?_)
  refine M.go rfl ?_
  refine M.use (by first | exact True.intro | exact rfl) (glast0_1 room first en o m L lc F c X Y hm hf) [(0, 0), (1, 1), (2, 2), (3, 3), (4, 4), (5, 5)] rfl rfl rfl (by repeat' (first | exact True.intro | refine ⟨⟨_, _, _, rfl, rfl, rfl, WkO.rfl⟩, ?_⟩ | refine HeapOK.acc rfl rfl ?_ | refine HeapOK.es rfl rfl ?_)) rfl rfl ?_
  refine M.go rfl ?_
  refine M.cond rfl (fun hh => absurd hh (by omega)) (fun _ => ?_)
  refine M.go rfl ?_
  rw [hmx]
  refine M.regD (MD.go rfl ?_)
  refine MD.op trivial (SOp.ia1 rfl rfl (by omega)) ?_
  refine MD.op trivial (SOp.ld1A rfl rfl hY rfl rfl rfl) ?_
  refine MD.go rfl ?_
  refine MD.use trivial (cut0_spec room L lc F c [119] p z old oc hold hp) [(0, 1), (1, 2), (2, 3)] rfl rfl rfl (by repeat' (first | exact True.intro | refine ⟨⟨_, _, _, rfl, rfl, rfl, WkO.rfl⟩, ?_⟩ | refine HeapOK.acc rfl rfl ?_ | refine HeapOK.es rfl rfl ?_)) rfl rfl ?_
  refine MD.go rfl ?_
  refine MD.nil mixed (Fnl.nodup rfl) (M.go rfl ?_)
  refine M.condN rfl (fun hn => absurd rfl hn) (fun _ => ?_)
  refine M.go rfl ?_
  refine M.op trivial (SOp.ia1 rfl rfl (by omega)) ?_
  refine M.op trivial (SOp.ld1A rfl rfl hY rfl rfl rfl) ?_
  refine M.go rfl ?_
  refine M.regF (MF.go rfl ?_)
  refine MF.op trivial (SOp.sl1 (l := 0) (r := k) rfl rfl ⟨_, _, rfl, by omega, by omega⟩ (by omega) (by omega)) ?_
  refine MF.go rfl ?_
  refine MF.op trivial (SOp.sl1 (l := 0) (r := k) rfl rfl ⟨_, _, rfl, by omega, by omega⟩ (by omega) (by omega)) ?_
  refine MF.go rfl ?_
  refine MF.nil mixed (Fnl.nodup rfl) rfl ⟨⟨SOp.sl1 (l := 0) (r := k) rfl rfl ⟨_, _, rfl, by omega, by omega⟩ (by omega) (by omega), trivial⟩, trivial⟩ (M.go rfl ?_)
  exact M.ret (M.go rfl (M.done (finQ.ret [(0, 0), (1, 1), (2, 2), (3, 3), (4, 4), (5, 5), (6, 6)] rfl rfl rfl (by first | exact Wk.rfl | exact Wk.uncap | exact Wk.nil | exact Wk.b1 rfl | exact Wk.t2 Wk.rfl (Wk.b1 rfl)) (by repeat' (first | exact True.intro | refine ⟨⟨_, _, _, rfl, rfl, rfl, WkO.rfl⟩, ?_⟩ | refine HeapOK.acc rfl rfl ?_ | refine HeapOK.es rfl rfl ?_)))))
theorem gfrom1_0 (room first en : Int) (o : Nat) (L : FS) (lc : Nat) (F : FS) (c : Nat) (w : PC) (W : List PC) (X Y : List PC) (n : Int) (hn : 1 ≤ n) : CallS Try.prog base 25 [.c (.ptr 0 0), .c (.p (.int .i64 n))] (hG1 4 5 6 7 room first en o 0 L lc F c w W X Y) (.c (.p (.int .i64 0))) (hG1 4 5 6 7 room first en o 0 L lc F c w W X Y) := by
  refine CallS.of noNG lWfr.2 rfl (M.start (M.go rfl ?_))
  refine M.cond rfl (fun hh => absurd hh (by omega)) (fun _ => ?_)
  refine M.go rfl ?_
  refine M.dec rfl (fun _ => ?_) (fun hn => absurd (by simp) hn)
  refine M.go rfl ?_
  exact M.ret (M.go rfl (M.done (finQ.ret [(0, 0), (1, 1), (2, 2), (3, 3), (4, 4), (5, 5), (6, 6)] rfl rfl rfl (by first | exact Wk.rfl | exact Wk.uncap | exact Wk.nil | exact Wk.b1 rfl | exact Wk.t2 Wk.rfl (Wk.b1 rfl)) (by repeat' (first | exact True.intro | refine ⟨⟨_, _, _, rfl, rfl, rfl, WkO.rfl⟩, ?_⟩ | refine HeapOK.acc rfl rfl ?_ | refine HeapOK.es rfl rfl ?_)))))
theorem gfrom1_n (room first en : Int) (o m : Nat) (L : FS) (lc : Nat) (F : FS) (c : Nat) (w : PC) (W : List PC) (X Y : List PC) (n : Int) (hn : 1 ≤ n) (hm : m ≤ 100000) (hf : 0 ≤ first ∧ first ≤ 2000000000000000) (hl : first + m < n) : CallS Try.prog base 25 [.c (.ptr 0 0), .c (.p (.int .i64 n))] (hG1 4 5 6 7 room first en o (m + 1) L lc F c w W X Y) (.c (.p (.int .i64 0))) (hG1 4 5 6 7 room first en o (m + 1) L lc F c w W X Y) := by
  refine CallS.of noNG lWfr.2 rfl (M.start (M.go rfl ?_))
  refine M.cond rfl (fun hh => absurd hh (by omega)) (fun _ => ?_)
  refine M.go rfl ?_
  refine M.dec rfl (fun hh => absurd hh (by omega)) (fun _ => ?_)
  refine M.go rfl ?_
  refine M.use (by first | exact True.intro | exact rfl) (glast1_1 room first en o m L lc F c w W X Y hm hf) [(0, 0), (1, 1), (2, 2), (3, 3), (4, 4), (5, 5), (6, 6)] rfl rfl rfl (by repeat' (first | exact True.intro | refine ⟨⟨_, _, _, rfl, rfl, rfl, WkO.rfl⟩, ?_⟩ | refine HeapOK.acc rfl rfl ?_ | refine HeapOK.es rfl rfl ?_)) rfl rfl ?_
  refine M.go rfl ?_
  refine M.cond rfl (fun _ => ?_) (fun hn => absurd (by omega) hn)
  refine M.go rfl ?_
  exact M.ret (M.go rfl (M.done (finQ.ret [(0, 0), (1, 1), (2, 2), (3, 3), (4, 4), (5, 5), (6, 6)] rfl rfl rfl (by first | exact Wk.rfl | exact Wk.uncap | exact Wk.nil | exact Wk.b1 rfl | exact Wk.t2 Wk.rfl (Wk.b1 rfl)) (by repeat' (first | exact True.intro | refine ⟨⟨_, _, _, rfl, rfl, rfl, WkO.rfl⟩, ?_⟩ | refine HeapOK.acc rfl rfl ?_ | refine HeapOK.es rfl rfl ?_)))))
theorem gfrom1_y (room first en : Int) (o m : Nat) (L : FS) (lc : Nat) (F : FS) (c : Nat) (w : PC) (W : List PC) (X Y : List PC) (n : Int) (hn : 1 ≤ n ∧ n ≤ 2000000000000000) (hm : m ≤ 100000) (hf : 0 ≤ first ∧ first ≤ 2000000000000000) (hl : n ≤ first + m) (hW : W.length ≤ 1000000) (k p : Nat) (hk : (k : Int) = if n - first < 0 then 0 else n - first) (z : Bool) (old : List Int) (oc : Option Nat) (hold : findP [119] F = some (fP z old oc)) (hp : p ≤ old.length) (hY : Y[o + k]? = some (.int .i64 (p : Nat))) :
    CallS Try.prog base 25 [.c (.ptr 0 0), .c (.p (.int .i64 n))] (hG1 4 5 6 7 room first en o (m + 1) L lc F c w W X Y) (.c (.p (.int .i64 0))) (hG1 7 5 6 8 room first ((p : Nat)) o k L lc (updP [119] (cutF z old p) c F) (updPC [119] (cutF z old p) c F) w (W ++ [chC p]) X Y) := by
  have hkm : k ≤ m := by split at hk <;> omega
  have hmx : maxI (IntKind.i64.wrap (n - first)) 0 = (k : Int) := by
    rw [wr64 (n := n - first) (by omega) (by omega)]
    unfold maxI
    split at hk <;> split <;> omega
  refine CallS.of noNG lWfr.2 rfl (M.start (M.go rfl ?_))
  refine M.cond rfl (fun hh => absurd hh (by omega)) (fun _ => ?_)
  refine M.go rfl ?_
  refine M.dec rfl (fun hh => absurd hh (by omega)) (fun _ => ?_)
  refine M.go rfl ?_
  refine M.use (by first | exact True.intro | exact rfl) (glast1_1 room first en o m L lc F c w W X Y hm hf) [(0, 0), (1, 1), (2, 2), (3, 3), (4, 4), (5, 5), (6, 6)] rfl rfl rfl (by repeat' (first | exact True.intro | refine ⟨⟨_, _, _, rfl, rfl, rfl, WkO.rfl⟩, ?_⟩ | refine HeapOK.acc rfl rfl ?_ | refine HeapOK.es rfl rfl ?_)) rfl rfl ?_
  refine M.go rfl ?_
  refine M.cond rfl (fun hh => absurd hh (by omega)) (fun _ => ?_)
  refine M.go rfl ?_
  rw [hmx]
  refine M.regD (MD.go rfl ?_)
  refine MD.op trivial (SOp.ia1 rfl rfl (by omega)) ?_
  refine MD.op trivial (SOp.ld1A rfl rfl hY rfl rfl rfl) ?_
  refine MD.go rfl ?_
  refine MD.use trivial (cut1_spec room L lc F c w W hW [119] p z old oc hold hp) [(0, 1), (1, 2), (2, 3), (3, 4)] rfl rfl rfl (by repeat' (first | exact True.intro | refine ⟨⟨_, _, _, rfl, rfl, rfl, WkO.rfl⟩, ?_⟩ | refine HeapOK.acc rfl rfl ?_ | refine HeapOK.es rfl rfl ?_)) rfl rfl ?_
  refine MD.go rfl ?_
  refine MD.nil mixed (Fnl.nodup rfl) (M.go rfl ?_)
  refine M.condN rfl (fun hn => absurd rfl hn) (fun _ => ?_)
  refine M.go rfl ?_
  refine M.op trivial (SOp.ia1 rfl rfl (by omega)) ?_
  refine M.op trivial (SOp.ld1A rfl rfl hY rfl rfl rfl) ?_
  refine M.go rfl ?_
  refine M.regF (MF.go rfl ?_)
  refine MF.op trivial (SOp.sl1 (l := 0) (r := k) rfl rfl ⟨_, _, rfl, by omega, by omega⟩ (by omega) (by omega)) ?_
  refine MF.go rfl ?_
  refine MF.op trivial (SOp.sl1 (l := 0) (r := k) rfl rfl ⟨_, _, rfl, by omega, by omega⟩ (by omega) (by omega)) ?_
  refine MF.go rfl ?_
  refine MF.nil mixed (Fnl.nodup rfl) rfl ⟨⟨SOp.sl1 (l := 0) (r := k) rfl rfl ⟨_, _, rfl, by omega, by omega⟩ (by omega) (by omega), trivial⟩, trivial⟩ (M.go rfl ?_)
  exact M.ret (M.go rfl (M.done (finQ.ret [(0, 0), (1, 1), (2, 2), (3, 3), (4, 4), (5, 5), (6, 6), (7, 7)] rfl rfl rfl (by first | exact Wk.rfl | exact Wk.uncap | exact Wk.nil | exact Wk.b1 rfl | exact Wk.t2 Wk.rfl (Wk.b1 rfl)) (by repeat' (first | exact True.intro | refine ⟨⟨_, _, _, rfl, rfl, rfl, WkO.rfl⟩, ?_⟩ | refine HeapOK.acc rfl rfl ?_ | refine HeapOK.es rfl rfl ?_)))))
end Go.Proofs.Ytjlfojgacnphmaa
