/- Texts of this claim, several in one: D8, D9, D10, D11, D12, D13. -/
import Derived.Test.YtjlfojgacnphmaaMgDiskMoves12
import Derived.Sort.KeysCollected
namespace Go.Proofs.Ytjlfojgacnphmaa
open Go.RowKit Sim Go Sym
set_option maxRecDepth 100000
set_option linter.unusedVariables false
set_option linter.unusedSimpArgs false
variable {base : Nat}
section
variable {φ : Ph} {h : SH} {w w' : World}
theorem HR.row2 (hr : HR base φ h w) (hb : Below w.heap.size w w') {g : Nat} {o : Obj} (hg : w.heap.size ≤ g) (ho : w'.heap[g]? = some o) (ψ : Ph) (hψ : ψ = ⟨φ.f, fun m => if m = g then some o else φ.fm m⟩) (k : Nat) : HR base ψ h w' ∧ Le φ ψ ∧ Mo k φ ψ h w h w' := by
  subst hψ
  have hfm : ∀ m o', φ.fm m = some o' → m < w.heap.size := fun m o' hm => by
    have := (hr.froz m o' hm).1
    rw [Array.getElem?_eq_some_iff] at this
    exact this.1
  have hle : Le φ ⟨φ.f, fun m => if m = g then some o else φ.fm m⟩ := ⟨fun _ _ h => h, fun m o' hm => by
    have := hfm m o' hm
    show (if m = g then some o else φ.fm m) = some o'
    rw [if_neg (by omega)]; exact hm⟩
  refine ⟨⟨hr.dom, Nat.le_trans hr.lo hb.size, fun b q hq => ?_, fun m o' hm => ?_, hr.inj⟩, hle, ⟨fun b L hb h => h, fun m o' hm => hle.fm m o' hm, hb.os, hb.tape, hb.output, hb.size, fun q hq _ => hb.block q hq, fun b L hL => .inr ⟨b, L, hL, rfl⟩, fun b q L h1 h2 => .inr ⟨b, q, L, h1, h2, rfl⟩, fun m o' hm => ?_⟩⟩
  · obtain ⟨L, h1, h2⟩ := hr.live b q hq
    exact ⟨L, h1, Live.mono hle (hb.block _ h2.lt) h2⟩
  · by_cases e : m = g
    · subst e
      have hm' : some o = some o' := by have : (if m = m then some o else φ.fm m) = some o' := hm; rwa [if_pos rfl] at this
      cases hm'
      refine ⟨ho, fun b L ⟨q, h1, h2, h3⟩ => ?_⟩
      obtain ⟨L1, h4, h5⟩ := hr.live b q h1
      rw [show φ b = some L from h3] at h4; cases h4
      have := h5.lt
      omega
    · have hm' : φ.fm m = some o' := by have : (if m = g then some o else φ.fm m) = some o' := hm; rwa [if_neg e] at this
      exact ⟨(hb.block m (hfm m o' hm')).trans (hr.froz m o' hm').1, (hr.froz m o' hm').2⟩
  · by_cases e : m = g
    · exact .inr (.inl (by omega))
    · exact .inl (by have : (if m = g then some o else φ.fm m) = some o' := hm; rwa [if_neg e] at this)
theorem HR.below (hr : HR base φ h w) (hb : Below w.heap.size w w') (k : Nat) : HR base φ h w' ∧ Mo k φ φ h w h w' := by
  have hfm : ∀ m o', φ.fm m = some o' → m < w.heap.size := fun m o' hm => by
    have := (hr.froz m o' hm).1
    rw [Array.getElem?_eq_some_iff] at this
    exact this.1
  refine ⟨⟨hr.dom, Nat.le_trans hr.lo hb.size, fun b q hq => ?_, fun m o' hm => ⟨(hb.block m (hfm m o' hm)).trans (hr.froz m o' hm).1, (hr.froz m o' hm).2⟩, hr.inj⟩, ⟨fun b L hb h => h, fun m o' hm => hm, hb.os, hb.tape, hb.output, hb.size, fun q hq _ => hb.block q hq, fun b L hL => .inr ⟨b, L, hL, rfl⟩, fun b q L h1 h2 => .inr ⟨b, q, L, h1, h2, rfl⟩, fun m o' hm => .inl hm⟩⟩
  obtain ⟨L, h1, h2⟩ := hr.live b q hq
  exact ⟨L, h1, Live.mono (Le.refl φ) (hb.block _ h2.lt) h2⟩
end
def kb (l : List Nat) : List UInt8 := l.map UInt8.ofNat
theorem kb_of : ∀ l : List UInt8, kb (l.map UInt8.toNat) = l
  | [] => rfl
  | x :: l => by
    have := kb_of l
    simp only [kb, List.map_cons] at this ⊢
    rw [this, UInt8.ofNat_toNat]
def KS (F : FS) : List PC := ((F.map fun e => kb e.2.1).mergeSort (fun x y => decide (x ≤ y))).map fun bs => PC.str (bs.map UInt8.toNat)
theorem KS_len (F : FS) : (KS F).length = F.length := by simp [KS]
theorem ents_of {φ : Ph} : ∀ (F : FS) (l : List MapEntry), All2 (ER φ) ((mK KD.str (pv F)).map fun e => (e.1, e.2.1.sc, e.2.2.sv)) l → l.map (·.born) = F.map (·.1) ∧ ∃ ks : List (List UInt8), l.map (·.key) = ks.map encStr ∧ ks.map (fun k => k.map UInt8.toNat) = F.map (fun e => e.2.1)
  | [], l, h => by
    have := h.length
    simp [mK, pv] at this
    obtain rfl : l = [] := List.eq_nil_of_length_eq_zero this.symm
    exact ⟨rfl, [], rfl, rfl⟩
  | e :: F, l, h => by
    cases l with
    | nil => have := h.length; simp [mK, pv] at this
    | cons x l =>
      have h1 : ER φ (e.1, (XC.p (KD.str.kf e.2.1)).sc, (XV.c (.p e.2.2)).sv) x ∧ All2 (ER φ) ((mK KD.str (pv F)).map fun e => (e.1, e.2.1.sc, e.2.2.sv)) l := h
      obtain ⟨⟨g1, g2, g3⟩, g4⟩ := h1
      obtain ⟨i1, ks, i2, i3⟩ := ents_of F l g4
      have g2' : CR φ (.str e.2.1) x.key := g2
      obtain ⟨s, hs, hs2⟩ := g2'
      exact ⟨by simp [i1, g1], s.data.toList :: ks, by simp [i2, hs, encStr], by simp [i3, hs2]⟩
theorem str_at (bs : List UInt8) (φ : Ph) : CR φ (.str (bs.map UInt8.toNat)) (encStr bs) := ⟨⟨bs.toArray⟩, rfl, by simp⟩
theorem flatE_str : ∀ l : List (List UInt8), flatE 1 (l.map fun bs => PC.str (bs.map UInt8.toNat)) = l.map fun bs => SC.str (bs.map UInt8.toNat)
  | [] => rfl
  | x :: l => by
    have := flatE_str l
    simp only [List.map_cons, flatE] at this ⊢
    rw [this]; rfl
def RT : Value → Option (DataW Unit × List MemPlace) := fun _ => some (.nil, [])
theorem key_str (k : List UInt8) (h : k.length ≤ 1000) : Go.keyOf Try.prog 9 (encStr k) = some (.string k) := by
  have h2 : k.length ≤ maxLen := Nat.le_trans h (by decide)
  have h3 : (⟨k.toArray⟩ : ByteArray).size ≤ maxLen := by show k.toArray.size ≤ maxLen; simpa using h2
  simp [Go.keyOf, Try.underlying9, mapKey, encStr, h3]
theorem rgs : ∀ (l : List MapEntry) (ks : List (List UInt8)), l.map (·.key) = ks.map encStr → (∀ k ∈ ks, k.length ≤ 1000) → (∀ x ∈ l, ∃ y, WideElems.rd Try.prog 9 RT x = some y) ∧ l.map (WideElems.rg Try.prog 9 RT) = ks.map fun k => (Lit.string k, DataW.nil)
  | [], ks, h, _ => by
    cases ks with
    | nil => exact ⟨fun x hx => (by cases hx), rfl⟩
    | cons k ks => cases h
  | x :: l, ks, h, hk => by
    cases ks with
    | nil => cases h
    | cons k ks =>
      simp only [List.map_cons, List.cons.injEq] at h
      obtain ⟨h1, h2⟩ := rgs l ks h.2 fun k hk' => hk k (by simp [hk'])
      have h3 : WideElems.rd Try.prog 9 RT x = some (Lit.string k, DataW.nil) := by
        unfold WideElems.rd
        rw [h.1, key_str k (hk k (by simp))]
        rfl
      refine ⟨fun y hy => ?_, ?_⟩
      · rcases List.mem_cons.1 hy with rfl | hy
        · exact ⟨_, h3⟩
        · exact h1 y hy
      · simp only [List.map_cons, h2, WideElems.rg_of h3]
structure NOK (F : FS) : Prop where
  nd : (F.map (fun e => e.2.1)).Nodup
  len : ∀ e ∈ F, e.2.1.length ≤ 1000
  sz : F.length ≤ 1000000
theorem names_spec (h : HS) (room : Int) (bl : Nat) (x : XC) (F : FS) (c : Nat) (hrow : h.get 0 = some (.row [.p (.int .i64 room), .mp bl, .mp 2, x] true)) (hmap : h.get 2 = some (fM F c)) (hF : FOK F c) (hN : NOK F) : CallS Try.prog base 34 [.c (.ptr 0 0)] h (.c (.p (.tz true 1 (KS F) none))) h := by
  refine ⟨⟨Try.f34, Try.func34, by kernel_rfl, noNG _ _ Try.func34⟩, fun φ args' w ha hr => ?_⟩
  obtain ⟨v0, rfl, hv0⟩ := all2_one ha
  have hv0' : CR φ (.ptr 0 0) v0 := hv0
  obtain ⟨L, hL, rfl⟩ := hv0'
  obtain ⟨L', hL', hlen, cs, E, fr, hheap, hcells, hown⟩ := hr.live 0 _ (get_row hrow)
  rw [hL] at hL'; cases hL'
  obtain ⟨v2, hv2, hc2⟩ := hcells 2 (XC.mp 2).sc rfl
  have hc2' : CR φ (.mp (some 2)) v2 := hc2
  obtain ⟨L2, hL2, rfl⟩ := hc2'
  have hg2 : h.sh.get 2 = some (XO.map (mK KD.str (pv F)) c).so := by rw [HS.get_sh, hmap]; show some (XO.pm _ _).so = _; rw [pm_so, up_pK]
  obtain ⟨L2', hL2', hb2, vs, hheap2, hall⟩ := hr.live 2 _ hg2
  rw [hL2] at hL2'; cases hL2'
  obtain ⟨e1, ks, e2, e3⟩ := ents_of F vs.toList hall
  have hks : ks = F.map fun e => kb e.2.1 := by
    have := congrArg (List.map kb) e3
    rw [List.map_map, List.map_map] at this
    have hid : ks.map (kb ∘ fun k => k.map UInt8.toNat) = ks := by
      conv => rhs; rw [← List.map_id ks]
      exact List.map_congr_left fun k _ => kb_of k
    rw [hid] at this
    exact this
  have hvl : vs.toList.length = F.length := by have := congrArg List.length e1; simpa using this
  have hkn : ks.Nodup := by
    have h1 := hN.nd
    rw [← e3] at h1
    exact (List.pairwise_map.1 h1).imp fun hne e => hne (by rw [e])
  have hkl : ∀ k ∈ ks, k.length ≤ 1000 := fun k hk => by
    rw [hks, List.mem_map] at hk
    obtain ⟨e, he, rfl⟩ := hk
    have := hN.len e he
    simpa [kb] using this
  obtain ⟨q1, q2⟩ := rgs vs.toList ks e2 hkl
  have hfit : WideElems.Fit Try.prog 9 RT vs c := by
    refine ⟨?_, ⟨?_, ?_, ?_⟩, q1⟩
    · rw [← Array.length_toList, hvl]; exact Nat.le_trans hN.sz (by decide)
    · intro y hy
      have h1 : y.born ∈ vs.toList.map (·.born) := List.mem_map.2 ⟨y, hy, rfl⟩
      rw [e1, List.mem_map] at h1
      obtain ⟨e, he, hee⟩ := h1
      rw [← hee]; exact hF.old e he
    · rw [e1]; exact hF.nd
    · rw [e2]; exact List.pairwise_map.2 (hkn.imp fun hne e => hne (encStr_inj e))
  obtain ⟨D0, hD0⟩ : ∃ D0 : DataW Unit, D0 = .map ((vs.toList.map (WideElems.rg Try.prog 9 RT)).foldr DataW.insert []) := ⟨_, rfl⟩
  have hsp := WideShapes.sorted_perm (vs.toList.map (WideElems.rg Try.prog 9 RT))
  have hown2 : w.ownsMap Try.prog 9 RT L2.m vs.size D0 := ⟨vs, c, hheap2, hfit, Nat.le_refl _, hD0⟩
  have hsz : Maps.size D0 = F.length := by
    rw [hD0]
    show List.length _ = _
    rw [hsp.length_eq, List.length_map, hvl]
  have hsk : (strKeys D0).Perm ks := by
    rw [hD0]
    have h1 := hsp.map fun p => strOf p.1
    rw [q2, List.map_map] at h1
    have hid : ks.map ((fun p : Lit × DataW Unit => strOf p.1) ∘ fun k => (Lit.string k, DataW.nil)) = ks := by
      conv => rhs; rw [← List.map_id ks]
      exact List.map_congr_left fun k _ => rfl
    rw [hid] at h1
    rw [q2]
    exact h1
  have hcell : w.cell? ⟨L.m, L.m0 + 0 + 2, none⟩ = some (.map (some L2.m)) := by
    have : w.heap[L.m]? = some (.cells cs E fr) := hheap
    simp [World.cell?, this, hv2]
  refine Calls.mono (names_calls w L.m (L.m0 + 0) L2.m vs.size D0 RT hcell hown2 (by rw [hsz]; exact Nat.le_trans hN.sz (by decide)) (by rw [hsz]; have := hN.sz; omega)) fun en w' hp => ?_
  obtain ⟨v, ss, rfl, hS, hrow2, hnil, hb⟩ := hp
  have hss : ss.mergeSort (fun x y => decide (x ≤ y)) = (F.map fun e => kb e.2.1).mergeSort (fun x y => decide (x ≤ y)) := by
    rw [← hks]; exact mergeSort_of_perm (hS.trans hsk)
  rw [hss] at hrow2
  obtain ⟨M, hM⟩ : ∃ M, M = (F.map fun e => kb e.2.1).mergeSort (fun x y => decide (x ≤ y)) := ⟨_, rfl⟩
  have hKS : KS F = M.map fun bs => PC.str (bs.map UInt8.toNat) := by rw [KS, hM]
  have hMl : M.length = F.length := by rw [hM]; simp
  have hsl : ss.length = F.length := by rw [(hS.trans hsk).length_eq, hks]; simp
  rw [← hM] at hrow2
  rw [hKS]
  by_cases h0 : ss = []
  · have hv := hnil.2 h0
    have hM0 : M = [] := List.eq_nil_of_length_eq_zero (by rw [hMl, ← hsl, h0]; rfl)
    obtain ⟨g1, g2⟩ := HR.below hr hb h.next
    exact ⟨v, φ, rfl, by rw [hM0, hv]; exact (rfl : CR φ .nils (.slice none 0 0)), g1, g2⟩
  · rcases hrow2 with ⟨_, ⟨hv, _⟩ | ⟨g, cap, cur, hv, hbg, hg, hnc, hcm, hcs, htk⟩⟩
    · exact absurd (hnil.1 hv) h0
    · obtain ⟨ψ, hψ⟩ : ∃ ψ : Ph, ψ = ⟨φ.f, fun m => if m = g then some (.cells cur 9 (0, 0)) else φ.fm m⟩ := ⟨_, rfl⟩
      obtain ⟨g1, g2, g3⟩ := HR.row2 hr hb hbg hg ψ hψ h.next
      have hne : M ≠ [] := by intro e; rw [e] at hMl; exact h0 (List.eq_nil_of_length_eq_zero (by rw [hsl, ← hMl]; rfl))
      refine ⟨v, ψ, rfl, ?_, g1, g3⟩
      have hz : (true && (M.map fun bs => PC.str (bs.map UInt8.toNat)).isEmpty) = false := by cases M <;> simp_all
      show CR ψ (PC.tz true 1 (M.map fun bs => PC.str (bs.map UInt8.toNat)) none).sc v
      simp only [PC.sc, hz, cond_false]
      refine ⟨by simp [flatE_len], ⟨g, 0, none⟩, cap, ?_, ?_, ?_, ?_, ?_⟩
      · rw [hv, hsl, List.length_map, hMl]
      · rw [List.length_map, hMl, ← hsl]; exact hnc
      · exact hcm
      · intro c' hc'; cases hc'
      refine CRs.mk fun j x hx => ?_
      rw [flatE_str, List.getElem?_map, Option.map_eq_some_iff] at hx
      obtain ⟨bs, hbs, rfl⟩ := hx
      refine ⟨encStr bs, ?_, str_at bs ψ⟩
      have hj := (List.getElem?_eq_some_iff.1 hbs).1
      have h1 : (cur.toList.take (ss.length * 1))[j]? = some (encStr bs) := by rw [htk, List.getElem?_map, hbs]; rfl
      rw [List.getElem?_take] at h1
      split at h1
      · rw [hψ]
        have h2 : cur[j]? = some (encStr bs) := by simpa using h1
        have hadd : (⟨g, 0, none⟩ : Addr).add (0 + j) = ⟨g, j, none⟩ := by
          simp only [Addr.add, Nat.zero_add]
          split <;> simp_all
        rw [hadd]
        simp [Ph.cell, h2]
      · cases h1
end Go.Proofs.Ytjlfojgacnphmaa

namespace Go.Proofs.Ytjlfojgacnphmaa
open Go.RowKit Sim Go Sym
set_option maxRecDepth 100000
set_option linter.unusedVariables false
set_option linter.unusedSimpArgs false
variable {base : Nat}
theorem apF_ne {z : Bool} {old new : List Int} (h : new ≠ []) : apF z old new = fP false (old ++ new) none := if_neg h
def f1 (name : List Nat) (f : PC) : FS := [(0, name, f)]
theorem f1_ok (name : List Nat) (z : Bool) (bs : List Int) (cp : Option Nat) : FOK (f1 name (fP z bs cp)) 1 := ⟨fun e he => by simp [f1] at he; subst he; simp, by simp [f1], fun e he => by simp [f1] at he; subst he; exact ⟨z, bs, cp, rfl⟩⟩
theorem f0_ok (c : Nat) : FOK [] c := ⟨fun e he => (by cases he), (by simp), fun e he => (by cases he)⟩
theorem do_first (name to : List Nat) (n : Int) (zb : Bool) (b : List Int) (cb : Option Nat) (hb : b.length ≤ 100000000) (h0 : b ≠ []) : CallS Try.prog base 66 [.c (.mp 0), .agg ((chX 0 name to (fP zb b cb) n).map XC.p), .c (.p (.int .i64 b.length))] ⟨[(0, some (fM [] 0))], 1⟩ (.tup []) ⟨[(0, some (fM (f1 name (fP false b none)) 1))], 1⟩ := by
  have := do_app0 (base := base) [] 0 name to n rfl zb b cb b.length (Nat.le_refl _) hb
  rw [List.take_length, apF_ne h0] at this
  exact this
theorem may_a : CallS Try.prog base 70 [.c (.p (.str [97]))] ⟨[], 0⟩ (.c (.p (.bool true))) ⟨[], 0⟩ := CallS.reck (m := 200) (h' := noMem) mixed noNG (by kernel_rfl)
noncomputable def lBg3 : {F : LF // lowerF Try.prog 32 = some F} := ⟨_, rfl⟩
theorem begun3_spec : CallS Try.prog base 32 [] ⟨[], 0⟩ (.c (.p (.bool true))) ⟨[], 0⟩ := by
  refine CallS.of noNG lBg3.2 rfl (M.start (M.go rfl ?_))
  refine M.use trivial (dnew_spec 100) [] rfl rfl rfl trivial rfl rfl ?_
  refine M.go rfl ?_
  refine M.op trivial (SOp.cvO rfl rfl (by decide)) ?_
  refine M.freezeO (i := 11) rfl rfl rfl ?_
  refine M.use trivial (append0_spec (roomI 100) [] 0 [] 0 [97] false [120, 121, 122] (some 3) may_a (f0_ok 0) (by decide) (by decide) (.inr (by decide)) _ _ (do_first [97] [] 0 false [120, 121, 122] none (by decide) (by decide))) [(0, 0), (1, 1), (2, 2)] rfl rfl rfl (by repeat' (first | exact True.intro | refine ⟨⟨_, _, _, rfl, rfl, rfl, WkO.rfl⟩, ?_⟩ | refine HeapOK.acc rfl rfl ?_ | refine HeapOK.es rfl rfl ?_)) rfl rfl ?_
  refine M.go rfl ?_
  have hcr : CrR 0 2 [⟨0, [97], [], false, [120, 121, 122], none, 0⟩] 0 ([], 0) (f1 [97] (fP false [120, 121] none), 1) := by
    refine ⟨_, ?_, rfl⟩
    rw [Cr1, if_neg (by decide), if_pos (by decide)]
    have := Do.new (x := ⟨0, [97], [], false, [120, 121, 122], none, 0⟩) (k := 2) (F := []) (c := 0) rfl (by decide) (by decide) rfl
    rw [apF_ne (by decide)] at this
    exact this
  refine M.use trivial (crash1_spec (roomI 100) [] 0 (f1 [97] (fP false [120, 121, 122] none)) 1 _ _ [⟨0, [97], [], false, [120, 121, 122], none, 0⟩] rfl (by decide) 0 2 _ hcr) [(0, 0), (1, 1), (2, 2), (3, 4)] rfl rfl rfl (by repeat' (first | exact True.intro | refine ⟨⟨_, _, _, rfl, rfl, rfl, WkO.rfl⟩, ?_⟩ | refine HeapOK.acc rfl rfl ?_ | refine HeapOK.es rfl rfl ?_)) rfl rfl ?_
  refine M.go rfl ?_
  refine M.use trivial (read0_spec (roomI 100) (f1 [97] (fP false [120, 121] none)) 1 (f1 [97] (fP false [120, 121] none)) 1 [97] false [120, 121] none rfl (by decide)) [(0, 5), (1, 6), (2, 7)] rfl rfl rfl (by repeat' (first | exact True.intro | refine ⟨⟨_, _, _, rfl, rfl, rfl, WkO.rfl⟩, ?_⟩ | refine HeapOK.acc rfl rfl ?_ | refine HeapOK.es rfl rfl ?_)) rfl rfl ?_
  refine M.go rfl ?_
  refine M.dec rfl (fun _ => ?_) (fun hn => absurd (by decide) hn)
  refine M.go rfl ?_
  refine M.op (by first | exact True.intro | exact rfl) (SOp.cvBS (l := [120, 121]) rfl rfl) ?_
  refine M.go rfl ?_
  refine M.decB rfl (fun _ => ?_) (fun hn => by cases hn)
  refine M.go rfl ?_
  refine M.use (by first | exact True.intro | exact rfl) (used1_spec (roomI 100) [] 0 (f1 [97] (fP false [120, 121, 122] none)) 1 _ _ (f1_ok _ _ _ _) (by decide)) [(0, 0), (1, 1), (2, 2), (3, 4)] rfl rfl rfl (by repeat' (first | exact True.intro | refine ⟨⟨_, _, _, rfl, rfl, rfl, WkO.rfl⟩, ?_⟩ | refine HeapOK.acc rfl rfl ?_ | refine HeapOK.es rfl rfl ?_)) rfl rfl ?_
  refine M.go rfl ?_
  refine M.dec rfl (fun _ => ?_) (fun hn => absurd (by decide) hn)
  refine M.go rfl ?_
  refine M.use (by first | exact True.intro | exact rfl) (waiting1_spec (roomI 100) [] 0 (f1 [97] (fP false [120, 121, 122] none)) 1 _ _) [(0, 0), (1, 1), (2, 2), (3, 4)] rfl rfl rfl (by repeat' (first | exact True.intro | refine ⟨⟨_, _, _, rfl, rfl, rfl, WkO.rfl⟩, ?_⟩ | refine HeapOK.acc rfl rfl ?_ | refine HeapOK.es rfl rfl ?_)) rfl rfl ?_
  refine M.go rfl ?_
  refine M.dec rfl (fun _ => ?_) (fun hn => absurd (by decide) hn)
  refine M.go rfl ?_
  refine M.use (by first | exact True.intro | exact rfl) (remove1_none (roomI 100) [] 0 (f1 [97] (fP false [120, 121, 122] none)) 1 _ _ [98] rfl) [(0, 0), (1, 1), (2, 2), (3, 4)] rfl rfl rfl (by repeat' (first | exact True.intro | refine ⟨⟨_, _, _, rfl, rfl, rfl, WkO.rfl⟩, ?_⟩ | refine HeapOK.acc rfl rfl ?_ | refine HeapOK.es rfl rfl ?_)) rfl rfl ?_
  refine M.go rfl ?_
  refine M.dec rfl (fun _ => ?_) (fun hn => absurd (by decide) hn)
  refine M.go rfl ?_
  refine M.use (by first | exact True.intro | exact rfl) (names_spec (hD1 3 (roomI 100) [] 0 (f1 [97] (fP false [120, 121, 122] none)) 1 _ _) (roomI 100) 1 _ (f1 [97] (fP false [120, 121, 122] none)) 1 rfl rfl (f1_ok _ _ _ _) ⟨by simp [f1], fun e he => by simp [f1] at he; subst he; simp, by simp [f1]⟩) [(0, 0), (1, 1), (2, 2), (3, 4)] rfl rfl rfl (by repeat' (first | exact True.intro | refine ⟨⟨_, _, _, rfl, rfl, rfl, WkO.rfl⟩, ?_⟩ | refine HeapOK.acc rfl rfl ?_ | refine HeapOK.es rfl rfl ?_)) rfl rfl ?_
  refine M.go rfl ?_
  refine M.decC (s := 0) rfl (fun _ => ?_) (fun hn => absurd hn (by rw [KS_len]; decide))
  exact M.ret (M.go rfl (M.done (finQ.ret [] rfl rfl rfl (by first | exact Wk.rfl | exact Wk.uncap | exact Wk.nil | exact Wk.b1 rfl | exact Wk.t2 Wk.rfl (Wk.b1 rfl)) (by repeat' (first | exact True.intro | refine ⟨⟨_, _, _, rfl, rfl, rfl, WkO.rfl⟩, ?_⟩ | refine HeapOK.acc rfl rfl ?_ | refine HeapOK.es rfl rfl ?_)))))
end Go.Proofs.Ytjlfojgacnphmaa

namespace Go.Proofs.Ytjlfojgacnphmaa
open Go.RowKit Sim Go Sym
set_option maxRecDepth 100000
set_option linter.unusedVariables false
set_option linter.unusedSimpArgs false
variable {base : Nat}
theorem sync_nil : CallS Try.prog base 35 [.c (.p .nilp)] ⟨[], 0⟩ (.tup []) ⟨[], 0⟩ := by
  refine CallS.of noNG lSync.2 rfl (M.start (M.go rfl ?_))
  exact M.done (finQ.normal [] rfl rfl rfl Wk.rfl trivial)
noncomputable def lDRo : {F : LF // lowerF Try.prog 38 = some F} := ⟨_, rfl⟩
theorem room_nil : CallS Try.prog base 38 [.c (.p .nilp), .c (.p (.int .i64 5))] ⟨[], 0⟩ (.tup []) ⟨[], 0⟩ := by
  refine CallS.of noNG lDRo.2 rfl (M.start (M.go rfl ?_))
  exact M.done (finQ.normal [] rfl rfl rfl Wk.rfl trivial)
theorem read_nil : CallS Try.prog base 36 [.c (.p .nilp), .c (.p (.str [97]))] ⟨[], 0⟩ (.tup [.c (.p (.tz true 0 [] none)), .c (.p (.bool false))]) ⟨[], 0⟩ := by
  refine CallS.of noNG lDRd.2 rfl (M.start (M.go rfl ?_))
  exact M.ret (M.go rfl (M.done (finQ.ret [] rfl rfl rfl (Wk.of rfl) (by repeat' (first | exact True.intro | refine ⟨⟨_, _, _, rfl, rfl, rfl, WkO.rfl⟩, ?_⟩ | refine HeapOK.acc rfl rfl ?_ | refine HeapOK.es rfl rfl ?_)))))
theorem append_nil3 : CallS Try.prog base 33 [.c (.p .nilp), .c (.p (.str [97])), .c (.p (.tz true 0 [] none))] ⟨[], 0⟩ (.c (.p (.int .i64 1))) ⟨[], 0⟩ := CallS.reck (m := 200) (h' := noMem) mixed noNG (by kernel_rfl)
theorem cut_nil3 : CallS Try.prog base 39 [.c (.p .nilp), .c (.p (.str [97])), .c (.p (.int .i64 0))] ⟨[], 0⟩ (.c (.p (.int .i64 1))) ⟨[], 0⟩ := CallS.reck (m := 200) (h' := noMem) mixed noNG (by kernel_rfl)
theorem remove_nil3 : CallS Try.prog base 40 [.c (.p .nilp), .c (.p (.str [97]))] ⟨[], 0⟩ (.c (.p (.int .i64 1))) ⟨[], 0⟩ := CallS.reck (m := 200) (h' := noMem) mixed noNG (by kernel_rfl)
theorem move_nil3 : CallS Try.prog base 37 [.c (.p .nilp), .c (.p (.str [97])), .c (.p (.str [98]))] ⟨[], 0⟩ (.c (.p (.int .i64 1))) ⟨[], 0⟩ := CallS.reck (m := 200) (h' := noMem) mixed noNG (by kernel_rfl)
theorem names_nil3 : CallS Try.prog base 34 [.c (.p .nilp)] ⟨[], 0⟩ (.c (.p (.tz true 0 [] none))) ⟨[], 0⟩ := CallS.reck (m := 200) (h' := noMem) mixed noNG (by kernel_rfl)
theorem used_nil3 : CallS Try.prog base 41 [.c (.p .nilp)] ⟨[], 0⟩ (.c (.p (.int .i64 0))) ⟨[], 0⟩ := CallS.reck (m := 200) (h' := noMem) mixed noNG (by kernel_rfl)
theorem waiting_nil3 : CallS Try.prog base 42 [.c (.p .nilp)] ⟨[], 0⟩ (.c (.p (.int .i64 0))) ⟨[], 0⟩ := CallS.reck (m := 200) (h' := noMem) mixed noNG (by kernel_rfl)
theorem crash_nil3 : CallS Try.prog base 23 [.c (.p .nilp), .c (.p (.int .i64 0)), .c (.p (.int .i64 0))] ⟨[], 0⟩ (.c (.p .nilp)) ⟨[], 0⟩ := CallS.reck (m := 200) (h' := noMem) mixed noNG (by kernel_rfl)
noncomputable def lDNo : {F : LF // lowerF Try.prog 12 = some F} := ⟨_, rfl⟩
theorem DiskNone_law : CallS Try.prog base 12 [] ⟨[], 0⟩ (.c (.p (.bool true))) ⟨[], 0⟩ := by
  refine CallS.of noNG lDNo.2 rfl (M.start (M.go rfl ?_))
  refine M.use0 trivial sync_nil rfl rfl rfl ?_
  refine M.go rfl ?_
  refine M.use0 trivial room_nil rfl rfl rfl ?_
  refine M.go rfl ?_
  refine M.use0 trivial read_nil rfl rfl rfl ?_
  refine M.go rfl ?_
  refine M.use0 trivial begun3_spec rfl rfl rfl ?_
  refine M.go rfl ?_
  refine M.use0 (by first | exact True.intro | exact rfl) append_nil3 rfl rfl rfl ?_
  refine M.go rfl ?_
  refine M.dec rfl (fun _ => ?_) (fun hn => absurd (by decide) hn)
  refine M.go rfl ?_
  refine M.use0 (by first | exact True.intro | exact rfl) cut_nil3 rfl rfl rfl ?_
  refine M.go rfl ?_
  refine M.dec rfl (fun _ => ?_) (fun hn => absurd (by decide) hn)
  refine M.go rfl ?_
  refine M.use0 (by first | exact True.intro | exact rfl) remove_nil3 rfl rfl rfl ?_
  refine M.go rfl ?_
  refine M.dec rfl (fun _ => ?_) (fun hn => absurd (by decide) hn)
  refine M.go rfl ?_
  refine M.use0 (by first | exact True.intro | exact rfl) move_nil3 rfl rfl rfl ?_
  refine M.go rfl ?_
  refine M.dec rfl (fun _ => ?_) (fun hn => absurd (by decide) hn)
  refine M.go rfl ?_
  refine M.use0 (by first | exact True.intro | exact rfl) names_nil3 rfl rfl rfl ?_
  refine M.go rfl ?_
  refine M.dec rfl (fun _ => ?_) (fun hn => absurd (by decide) hn)
  refine M.go rfl ?_
  refine M.use0 (by first | exact True.intro | exact rfl) used_nil3 rfl rfl rfl ?_
  refine M.go rfl ?_
  refine M.dec rfl (fun _ => ?_) (fun hn => absurd (by decide) hn)
  refine M.go rfl ?_
  refine M.use0 (by first | exact True.intro | exact rfl) waiting_nil3 rfl rfl rfl ?_
  refine M.go rfl ?_
  refine M.dec rfl (fun _ => ?_) (fun hn => absurd (by decide) hn)
  refine M.go rfl ?_
  refine M.use0 (by first | exact True.intro | exact rfl) crash_nil3 rfl rfl rfl ?_
  refine M.go rfl ?_
  exact M.ret (M.go rfl (M.done (finQ.ret [] rfl rfl rfl (by first | exact Wk.rfl | exact Wk.uncap | exact Wk.nil | exact Wk.b1 rfl | exact Wk.t2 Wk.rfl (Wk.b1 rfl)) (by repeat' (first | exact True.intro | refine ⟨⟨_, _, _, rfl, rfl, rfl, WkO.rfl⟩, ?_⟩ | refine HeapOK.acc rfl rfl ?_ | refine HeapOK.es rfl rfl ?_)))))
theorem diskNone_calls (w : World) : Calls Try.prog 12 #[] w fun e w' => e = .returned (.bool true) ∧ Below w.heap.size w w' := CallS.law DiskNone_law (args' := []) trivial
end Go.Proofs.Ytjlfojgacnphmaa

namespace Go.Proofs.Ytjlfojgacnphmaa
open Go.RowKit Sim Go Sym
set_option maxRecDepth 100000
set_option linter.unusedVariables false
set_option linter.unusedSimpArgs false
variable {base : Nat}
section
variable {P : Program} {n : Nat} {e : Env} {h : HS}
theorem SOp.mkS1 {s bytes k : Nat} {zs : List XC} {z : PC} {x y : LX} {i j : IntKind} (hx : xev e x = some (.c (.p (.int i (k : Int))))) (hy : xev e y = some (.c (.p (.int j (k : Int))))) (hz : zs.map XC.sc = z.flat) (hz2 : z.flat.length = s) (hb : k * bytes ≤ 140737488355328) :
    SOp P n (.mkS s bytes zs x y) e h (.c (.sl h.next 0 k s (some k))) (h.newO (.els s (List.replicate k z))) := ⟨fun o call hw => by
  generalize ho : o.op = op' at hw
  generalize hlk : LK.mkS s bytes zs x y = lk at hw
  cases hw <;> try (cases hlk; done)
  rename_i t l c l' c' e1 i1 z1 g1 g2 g3 g4 g5 g6 g7 g8
  simp only [LK.mkS.injEq] at hlk
  obtain ⟨rfl, rfl, rfl, rfl, rfl⟩ := hlk
  have g9 := zeroX_sc g5
  have hb2 : (k : Int) * (i1.bytes : Int) ≤ 140737488355328 := by rw [← Int.natCast_mul]; omega
  simp only [Sim.step, ho, xev_ev g1 hx, xev_ev g2 hy, XV.sv, XC.sc, PC.sc, sMake, g3, g4, g9, hz]
  rw [if_pos ⟨by omega, by omega, hb2, g6, hz2, g8⟩, Int.toNat_natCast, rep_flat i1.size z hz2]
  rfl⟩
end
def hCr0 (room : Int) (L : FS) (lc : Nat) (F : FS) (c : Nat) : HS := ⟨[(5, some (fM L lc)), (4, some (fM L lc)), (3, some (.row [.p (.int .i64 room), .mp 4, .mp 5, .p (.tz true 5 [] none)] true)), (2, some (fM F c)), (1, some (fM L lc)), (0, some (.row [.p (.int .i64 room), .mp 1, .mp 2, .p (.tz true 5 [] none)] true))], 6⟩
theorem crash0_spec (room : Int) (L : FS) (lc : Nat) (F : FS) (c : Nat) (n torn : Int) :
    CallS Try.prog base 23 [.c (.ptr 0 0), .c (.p (.int .i64 n)), .c (.p (.int .i64 torn))] (hD0 room L lc F c) (.c (.ptr 3 0)) (hCr0 room L lc F c) := by
  refine CallS.of noNG lCr.2 rfl (M.start (M.go rfl ?_))
  refine M.regF (MF.go rfl ?_)
  refine MF.use trivial (mclone_spec L lc) [(0, 1)] rfl rfl rfl (by repeat' (first | exact True.intro | refine ⟨⟨_, _, _, rfl, rfl, rfl, WkO.rfl⟩, ?_⟩ | refine HeapOK.acc rfl rfl ?_ | refine HeapOK.es rfl rfl ?_)) rfl rfl ?_
  refine MF.go rfl ?_
  refine MF.nil mixed (Fnl.nodup rfl) rfl ⟨⟨stepX_ok rfl, trivial⟩, trivial⟩ (M.go rfl ?_)
  refine M.loop (M.round (M.go rfl ?_))
  refine M.cond rfl (fun hn => absurd hn (by simp)) (fun _ => ?_)
  refine M.exit (M.go rfl (M.done (M.q (M.go rfl ?_))))
  refine M.use trivial (mclone_spec L lc) [(0, 3)] rfl rfl rfl (by repeat' (first | exact True.intro | refine ⟨⟨_, _, _, rfl, rfl, rfl, WkO.rfl⟩, ?_⟩ | refine HeapOK.acc rfl rfl ?_ | refine HeapOK.es rfl rfl ?_)) rfl rfl ?_
  refine M.go rfl ?_
  exact M.ret (M.go rfl (M.done (finQ.ret [(0, 0), (1, 1), (2, 2), (3, 4), (4, 3), (5, 5)] rfl rfl rfl (by first | exact Wk.rfl | exact Wk.uncap | exact Wk.nil | exact Wk.b1 rfl | exact Wk.t2 Wk.rfl (Wk.b1 rfl)) ⟨⟨_, _, _, rfl, rfl, rfl, WkO.rfl⟩, ⟨_, _, _, rfl, rfl, rfl, WkO.rfl⟩, ⟨_, _, _, rfl, rfl, rfl, WkO.row ⟨Wk.rfl, Wk.rfl, Wk.rfl, Wk.nil, trivial⟩⟩, ⟨_, _, _, rfl, rfl, rfl, WkO.rfl⟩, ⟨_, _, _, rfl, rfl, rfl, WkO.rfl⟩, ⟨_, _, _, rfl, rfl, rfl, WkO.rfl⟩, trivial⟩)))
def zs (k : Nat) : List Int := List.replicate k 0
theorem zs_len (k : Nat) : (zs k).length = k := by simp [zs]
theorem zs_add (a b : Nat) : zs a ++ zs b = zs (a + b) := by simp [zs]
theorem zs_take (k m : Nat) (h : m ≤ k) : (zs k).take m = zs m := by simp [zs, Nat.min_eq_left h]
theorem zs_P (k : Nat) : u8P (zs k) = List.replicate k (.int .u8 0) := by simp [u8P, zs]
def syn : List Int := [115, 121, 110, 99]
def nmF : List Nat := [102]
def tcg (k : Nat) : Chg := ⟨0, nmF, [], false, zs k, none, 0⟩
def tF (m : Nat) (cp : Option Nat) : FS := f1 nmF (fP false (syn ++ zs m) cp)
def cpN (m k : Nat) (cp : Option Nat) : Option Nat := if k = 0 then some (4 + m) else none
theorem tF_ap (m k : Nat) : apF (false && (u8P (syn ++ zs m)).isEmpty) (syn ++ zs m) (zs k) = fP false (syn ++ zs (m + k)) (cpN m k none) := by
  cases k with
  | zero => rw [apF, if_pos (show zs 0 = [] from rfl), cpN, if_pos rfl]; simp [syn, zs, fP]; omega
  | succ k => rw [apF, if_neg (by simp [zs]), cpN, if_neg (by omega), List.append_assoc, zs_add]
theorem tF_do (m k j : Nat) (cp : Option Nat) (hk : k ≤ j) (hm : m ≤ 10000) (hj : j ≤ 10000) : Do (tcg j) k (tF m cp, 1) (tF (m + k) (cpN m k none), 1) := by
  have := Do.app (x := tcg j) (k := k) (F := tF m cp) (c := 1) (z := false) (old := syn ++ zs m) (oc := cp) rfl (by simp [tcg, zs_len, hk]) (by simp [tcg, zs_len]; omega) rfl (by simp [syn, zs_len]; omega)
  rw [show (tcg j).b.take k = zs k from zs_take j k hk, tF_ap] at this
  exact this
theorem may_f : CallS Try.prog base 70 [.c (.p (.str nmF))] ⟨[], 0⟩ (.c (.p (.bool true))) ⟨[], 0⟩ := CallS.reck (m := 200) (h' := noMem) mixed noNG (by kernel_rfl)
theorem tF_ok (m : Nat) (cp : Option Nat) : FOK (tF m cp) 1 := f1_ok _ _ _ _
theorem tF_used (m : Nat) (cp : Option Nat) : usedN (tF m cp) = 4 + m := by simp [usedN, tF, f1, lenP, fP, syn, zs, u8P]; omega
def mB : Int := roomI 1048576
theorem mB_eq : mB = 1048576 := by decide
def ctr (n torn : Int) (i k : Nat) : Nat := if (i : Int) < n then k else if (i : Int) = n ∧ 0 ≤ torn then min torn.toNat k else 0
def ctrs (n torn : Int) : Nat → List Nat → Nat
  | _, [] => 0
  | i, k :: l => ctr n torn i k + ctrs n torn (i + 1) l
theorem ctr_le (n torn : Int) (i k : Nat) : ctr n torn i k ≤ k := by
  unfold ctr
  split
  · omega
  · split <;> omega
theorem torn_cr (n torn : Int) : ∀ (l : List Nat) (i m : Nat) (cp : Option Nat), (∀ k ∈ l, k ≤ 49) → m + 49 * l.length ≤ 9000 → ∃ cp', CrR n torn (l.map tcg) i (tF m cp, 1) (tF (m + ctrs n torn i l) cp', 1)
  | [], i, m, cp, _, _ => ⟨cp, rfl⟩
  | k :: l, i, m, cp, hk, hm => by
    have h1 := hk k (by simp)
    have h2 := ctr_le n torn i k
    simp only [List.length_cons] at hm
    have step : ∃ cp1, Cr1 n torn (tcg k) i (tF m cp, 1) (tF (m + ctr n torn i k) cp1, 1) := by
      by_cases h3 : (i : Int) < n
      · refine ⟨cpN m k none, ?_⟩
        have := tF_do m k k cp (Nat.le_refl _) (by omega) (by omega)
        rw [Cr1, if_pos h3, ctr, if_pos h3, show (tcg k).b.length = k from zs_len k]
        exact this
      · by_cases h4 : (i : Int) = n ∧ 0 ≤ torn
        · refine ⟨cpN m (min torn.toNat k) none, ?_⟩
          have := tF_do m (min torn.toNat k) k cp (by omega) (by omega) (by omega)
          rw [Cr1, if_neg h3, ctr, if_neg h3, if_pos ⟨h4.1, h4.2, rfl⟩, if_pos h4, show (tcg k).b.length = k from zs_len k]
          exact this
        · refine ⟨cp, ?_⟩
          rw [Cr1, if_neg h3, ctr, if_neg h3, if_neg (fun h => h4 ⟨h.1, h.2.1⟩), if_neg h4]
          rfl
    obtain ⟨cp1, h3⟩ := step
    obtain ⟨cp2, h4⟩ := torn_cr n torn l (i + 1) (m + ctr n torn i k) cp1 (fun k hk' => hk k (by simp [hk'])) (by omega)
    refine ⟨cp2, _, h3, ?_⟩
    rw [Nat.add_assoc] at h4
    exact h4
end Go.Proofs.Ytjlfojgacnphmaa

namespace Go.Proofs.Ytjlfojgacnphmaa
open Go.RowKit Sim Go Sym
set_option maxRecDepth 100000
set_option linter.unusedVariables false
set_option linter.unusedSimpArgs false
variable {base : Nat}
theorem SOp.remK {P : Program} {n : Nat} {e : Env} {h : HS} {nk : NK} {x y : LX} {i : IntKind} {a b : Int} (hx : xev e x = some (.c (.p (.int i a)))) (hy : xev e y = some (.c (.p (.int i b)))) (h0 : b ≠ 0) : SOp P n (.bin nk .rem x y) e h (.c (.p (.int i (a.tmod b)))) h :=
  SOp.bin hx hy (by simp only [binX, if_true, intX]; rw [if_neg h0])
def kz (t : Int) : Nat := (t.tmod 50).natAbs
theorem kz_le (t : Int) : kz t ≤ 49 ∧ -50 < t.tmod 50 ∧ t.tmod 50 < 50 := by
  have h1 : (t.tmod 50).natAbs = t.natAbs % 50 := by simp [Int.natAbs_tmod]
  have h2 : t.natAbs % 50 < 50 := Nat.mod_lt _ (by omega)
  unfold kz
  omega
theorem ctrs_app (n torn : Int) : ∀ (l : List Nat) (i k : Nat), ctrs n torn i (l ++ [k]) = ctrs n torn i l + ctr n torn (i + l.length) k
  | [], i, k => by simp [ctrs]
  | x :: l, i, k => by
    have := ctrs_app n torn l (i + 1) k
    simp only [List.cons_append, ctrs, this, List.length_cons]
    rw [show i + 1 + l.length = i + (l.length + 1) by omega]; omega
theorem ctrs_le (n torn : Int) : ∀ (l : List Nat) (i : Nat), (∀ k ∈ l, k ≤ 49) → ctrs n torn i l ≤ 49 * l.length
  | [], _, _ => Nat.le_refl _
  | k :: l, i, h => by
    have h1 := ctr_le n torn i k
    have h2 := h k (by simp)
    have h3 := ctrs_le n torn l (i + 1) fun k hk => h k (by simp [hk])
    simp only [ctrs, List.length_cons]; omega
theorem tF_hdo (m k : Nat) (cp : Option Nat) (hm : m ≤ 10000) (hk : k ≤ 10000) : CallS Try.prog base 66 [.c (.mp 0), .agg ((chX 0 nmF [] (fP false (zs k) none) 0).map XC.p), .c (.p (.int .i64 (zs k).length))] ⟨[(0, some (fM (tF m cp) 1))], 1⟩ (.tup []) ⟨[(0, some (fM (tF (m + k) (cpN m k none)) 1))], 1⟩ := by
  have := (tF_do m k k cp (Nat.le_refl _) hm hk).spec (base := base)
  rw [zs_len]
  exact this
theorem tap1 (m k : Nat) (cp : Option Nat) (w : PC) (W : List PC) (hm : m ≤ 2000) (hk : k ≤ 49) (hW : W.length ≤ 1000) : CallS Try.prog base 33 [.c (.ptr 0 0), .c (.p (.str nmF)), .c (.p (.tz false 1 (u8P (zs k)) (some k)))] (hD1 3 mB (tF 0 none) 1 (tF m cp) 1 w W) (.c (.p (.int .i64 0))) (hD1 4 mB (tF 0 none) 1 (tF (m + k) (cpN m k none)) 1 w (W ++ [(tcg k).pc])) :=
  append1_spec mB (tF 0 none) 1 (tF m cp) 1 w W (by omega) nmF false (zs k) (some k) may_f (tF_ok _ _) (by rw [mB_eq]; decide) (by rw [tF_used, zs_len, mB_eq]; omega) (.inl rfl) _ _ (tF_hdo m k cp (by omega) (by omega))
theorem tap0 (m k : Nat) (cp : Option Nat) (hm : m ≤ 2000) (hk : k ≤ 49) : CallS Try.prog base 33 [.c (.ptr 0 0), .c (.p (.str nmF)), .c (.p (.tz false 1 (u8P (zs k)) (some k)))] (hD0 mB (tF 0 none) 1 (tF m cp) 1) (.c (.p (.int .i64 0))) (hD1 3 mB (tF 0 none) 1 (tF (m + k) (cpN m k none)) 1 (tcg k).pc []) :=
  append0_spec mB (tF 0 none) 1 (tF m cp) 1 nmF false (zs k) (some k) may_f (tF_ok _ _) (by rw [mB_eq]; decide) (by rw [tF_used, zs_len, mB_eq]; omega) (.inl rfl) _ _ (tF_hdo m k cp (by omega) (by omega))
noncomputable def lTo : {F : LF // lowerF Try.prog 10 = some F} := ⟨_, rfl⟩
def toE (z : Bool) (T : List Int) (ct : Option Nat) (n torn : Int) (S j : Nat) : Env := [(0, .c (.p (.tz z 1 (inP T) ct))), (1, .c (.p (.int .i64 n))), (2, .c (.p (.int .i64 torn))), (8, .c (.ptr 0 0)), (9, .c (.p (.int .i64 ((4 + S : Nat) : Int)))), (10, .c (.p (.int .i64 j)))]
def toX (n torn : Int) (S : Nat) : Env := [(1, .c (.p (.int .i64 n))), (2, .c (.p (.int .i64 torn))), (8, .c (.ptr 0 0)), (9, .c (.p (.int .i64 ((4 + S : Nat) : Int))))]
def pcs (l : List Nat) : List PC := l.map fun k => (tcg k).pc
def ksT (T : List Int) : List Nat := (T.take 20).map kz
theorem ksT_le (T : List Int) : ∀ k ∈ ksT T, k ≤ 49 := fun k hk => by
  simp only [ksT, List.mem_map] at hk
  obtain ⟨t, _, rfl⟩ := hk
  exact (kz_le t).1
theorem ksT_at {T : List Int} {pre rest : List Nat} {k : Nat} (h : ksT T = pre ++ k :: rest) : ∃ t, (inP T)[pre.length]? = some (.int .i64 t) ∧ k = kz t ∧ pre.length < T.length ∧ pre.length < 20 := by
  have h1 : (ksT T)[pre.length]? = some k := by rw [h]; simp
  simp only [ksT, List.getElem?_map, Option.map_eq_some_iff] at h1
  obtain ⟨t, h2, h3⟩ := h1
  rw [List.getElem?_take] at h2
  split at h2
  · rename_i h4
    exact ⟨t, by simp [inP, h2], h3.symm, (List.getElem?_eq_some_iff.1 h2).1, h4⟩
  · cases h2
theorem ksT_len (T : List Int) : (ksT T).length = min 20 T.length := by simp [ksT]
theorem torn_loop (z : Bool) (T : List Int) (ct : Option Nat) (n torn : Int) (Q : QX) (hq : ∀ k0 pr cp, ksT T = k0 :: pr → Q (.exit 0) (toX n torn (ctrs n torn 0 (ksT T))) (hD1 3 mB (tF 0 none) 1 (tF (ksT T).sum cp) 1 (tcg k0).pc (pcs pr))) :
    ∀ (rest : List Nat) (k0 : Nat) (pr : List Nat) (cp : Option Nat), ksT T = (k0 :: pr) ++ rest → XH Try.prog base lTo.1.n 0 (lTo.1.c.lp 0) (toE z T ct n torn (ctrs n torn 0 (k0 :: pr)) (k0 :: pr).length) (hD1 3 mB (tF 0 none) 1 (tF (k0 :: pr).sum cp) 1 (tcg k0).pc (pcs pr)) Q := by
  have hTl : (inP T).length = T.length := by simp [inP]
  have hkl := ksT_len T
  intro rest
  induction rest with
  | nil =>
    intro k0 pr cp hp
    rw [List.append_nil] at hp
    have hq' := hq k0 pr cp hp
    rw [hp] at hq'
    have hpl : (k0 :: pr).length = min 20 T.length := by rw [← hp, hkl]
    refine M.round (M.go rfl ?_)
    refine M.dec rfl (fun h1 => ?_) (fun h1 => ?_)
    · refine M.go rfl ?_
      refine M.cond rfl (fun h2 => absurd h2 (by rw [hTl] at h1; omega)) (fun h2 => ?_)
      refine M.ren [(0, 0), (1, 1), (2, 2), (3, 3)] ?_ trivial rfl (by repeat' (first | exact True.intro | refine ⟨⟨_, _, rfl, rfl, Wk.rfl⟩, ?_⟩ | refine ⟨⟨_, _, accV_ren rfl, rfl, Wk.rfl⟩, ?_⟩ | refine ⟨⟨_, _, accV_ren rfl, rfl, Wk.acc0⟩, ?_⟩ | refine ⟨⟨_, _, rfl, rfl, Wk.uncap⟩, ?_⟩ | refine ⟨⟨_, _, rfl, rfl, Wk.nil⟩, ?_⟩)) (by repeat' (first | exact True.intro | refine ⟨⟨_, _, _, rfl, rfl, rfl, WkO.rfl⟩, ?_⟩ | refine HeapOK.acc rfl rfl ?_ | refine HeapOK.es rfl rfl ?_)) (e' := toX n torn (ctrs n torn 0 (k0 :: pr))) (h' := hD1 3 mB (tF 0 none) 1 (tF (k0 :: pr).sum cp) 1 (tcg k0).pc (pcs pr))
      exact M.exit (M.go rfl (M.done hq'))
    · refine M.go rfl ?_
      refine M.ren [(0, 0), (1, 1), (2, 2), (3, 3)] ?_ trivial rfl (by repeat' (first | exact True.intro | refine ⟨⟨_, _, rfl, rfl, Wk.rfl⟩, ?_⟩ | refine ⟨⟨_, _, accV_ren rfl, rfl, Wk.rfl⟩, ?_⟩ | refine ⟨⟨_, _, accV_ren rfl, rfl, Wk.acc0⟩, ?_⟩ | refine ⟨⟨_, _, rfl, rfl, Wk.uncap⟩, ?_⟩ | refine ⟨⟨_, _, rfl, rfl, Wk.nil⟩, ?_⟩)) (by repeat' (first | exact True.intro | refine ⟨⟨_, _, _, rfl, rfl, rfl, WkO.rfl⟩, ?_⟩ | refine HeapOK.acc rfl rfl ?_ | refine HeapOK.es rfl rfl ?_)) (e' := toX n torn (ctrs n torn 0 (k0 :: pr))) (h' := hD1 3 mB (tF 0 none) 1 (tF (k0 :: pr).sum cp) 1 (tcg k0).pc (pcs pr))
      exact M.exit (M.go rfl (M.done hq'))
  | cons k rest ih =>
    intro k0 pr cp hp
    obtain ⟨t, hu, hk, hlt, h20⟩ := ksT_at hp
    have hk49 := kz_le t
    have hsum : ∀ l : List Nat, (∀ k ∈ l, k ≤ 49) → l.sum ≤ 49 * l.length := fun l hl => by
      induction l with
      | nil => simp
      | cons a l ih => have := hl a (by simp); have := ih fun k hk => hl k (by simp [hk]); simp only [List.sum_cons, List.length_cons]; omega
    have hpre : ∀ k ∈ k0 :: pr, k ≤ 49 := fun k hk => ksT_le T k (by rw [hp]; exact List.mem_append_left _ hk)
    have hs := hsum _ hpre
    have hc := ctrs_le n torn (k0 :: pr) 0 hpre
    have hck := ctr_le n torn (k0 :: pr).length k
    have hca := ctrs_app n torn (k0 :: pr) 0 k
    rw [Nat.zero_add] at hca
    obtain ⟨m, hm⟩ : ∃ m, m = (k0 :: pr).sum := ⟨_, rfl⟩
    obtain ⟨S, hS⟩ : ∃ S, S = ctrs n torn 0 (k0 :: pr) := ⟨_, rfl⟩
    obtain ⟨j, hj⟩ : ∃ j, j = (k0 :: pr).length := ⟨_, rfl⟩
    have ih' := ih k0 (pr ++ [k]) (cpN m k none) (by rw [hp]; simp)
    rw [show k0 :: (pr ++ [k]) = (k0 :: pr) ++ [k] from rfl, hca, List.sum_append, List.length_append, ← hm, ← hS, ← hj, show ([k] : List Nat).sum = k by simp, show ([k] : List Nat).length = 1 from rfl, show pcs (pr ++ [k]) = pcs pr ++ [(tcg k).pc] by simp [pcs]] at ih'
    have h20' : j < 20 := by rw [hj]; exact h20
    have A := tap1 (base := base) m k cp (tcg k0).pc (pcs pr) (by omega) (by omega) (by simp only [pcs, List.length_map]; simp only [List.length_cons] at hj; omega)
    have hw2 : IntKind.i64.wrap ((j : Int) + 1) = ((j + 1 : Nat) : Int) := by rw [wr64 (by omega) (by omega)]; omega
    rw [← hj] at hu hck
    rw [← hm, ← hS, ← hj]
    have hu' : (inP T)[((j : Int)).toNat]? = some (.int .i64 t) := by rw [show ((j : Int)).toNat = j by omega]; exact hu
    refine M.round (M.go rfl ?_)
    refine M.dec rfl (fun h1 => ?_) (fun h1 => absurd (by rw [hTl]; omega) h1)
    refine M.go rfl ?_
    refine M.cond rfl (fun _ => ?_) (fun h2 => absurd (by omega) h2)
    refine M.go rfl ?_
    refine M.op trivial (SOp.ia rfl rfl (by omega) hu') ?_
    refine M.op trivial (SOp.ld1e rfl hu' rfl rfl rfl) ?_
    refine M.go rfl ?_
    refine M.op trivial (SOp.remK rfl rfl (by omega)) ?_
    unfold kz at hk
    obtain ⟨hk1, hk2, hk3⟩ := hk49
    unfold kz at hk1
    generalize t.tmod 50 = r at hk hk1 hk2 hk3
    refine M.go rfl ?_
    refine M.cond rfl (fun h4 => ?_) (fun h4 => ?_)
    · refine M.go rfl ?_
      rw [show IntKind.i64.wrap (0 - r) = (k : Int) by rw [wr64 (by omega) (by omega)]; omega]
      refine M.op trivial (SOp.mkS1 (k := k) (z := .int .u8 0) rfl rfl rfl rfl (by omega)) ?_
      refine M.freezeO (i := 45) rfl rfl (by simp) ?_
      rw [← zs_P]
      refine M.use trivial A [(0, 0), (1, 1), (2, 2), (3, 3)] rfl rfl rfl (by repeat' (first | exact True.intro | refine ⟨⟨_, _, _, rfl, rfl, rfl, WkO.rfl⟩, ?_⟩ | refine HeapOK.acc rfl rfl ?_ | refine HeapOK.es rfl rfl ?_)) rfl rfl ?_
      refine M.go rfl ?_
      refine M.condN rfl (fun hn => absurd rfl hn) (fun _ => ?_)
      refine M.go rfl ?_
      refine M.cond rfl (fun h5 => ?_) (fun h5 => ?_)
      · refine M.go rfl ?_
        rw [wr64 (n := ((4 + S : Nat) : Int) + (k : Int)) (by omega) (by omega), show ((4 + S : Nat) : Int) + (k : Int) = ((4 + (S + k) : Nat) : Int) by omega]
        refine M.dec rfl (fun h6 => absurd h6 (by omega)) (fun h6 => ?_)
        refine M.go rfl ?_
        rw [show ctr n torn j k = k from if_pos h5] at ih'
        rw [hw2]
        exact M.again (XH.ren [(0, 0), (1, 1), (2, 2), (3, 5)] ih' rfl (by repeat' (first | exact True.intro | refine ⟨⟨_, _, rfl, rfl, Wk.rfl⟩, ?_⟩ | refine ⟨⟨_, _, accV_ren rfl, rfl, Wk.rfl⟩, ?_⟩ | refine ⟨⟨_, _, accV_ren rfl, rfl, Wk.acc0⟩, ?_⟩ | refine ⟨⟨_, _, rfl, rfl, Wk.uncap⟩, ?_⟩ | refine ⟨⟨_, _, rfl, rfl, Wk.nil⟩, ?_⟩)) (by repeat' (first | exact True.intro | refine ⟨⟨_, _, _, rfl, rfl, rfl, WkO.rfl⟩, ?_⟩ | refine HeapOK.acc rfl rfl ?_ | refine HeapOK.es rfl rfl ?_)))
      · refine M.go rfl ?_
        refine M.dec rfl (fun h6 => ?_) (fun h6 => ?_)
        · refine M.go rfl ?_
          refine M.dec rfl (fun h7 => ?_) (fun h7 => absurd (by omega) h7)
          refine M.go rfl ?_
          refine M.cond rfl (fun h8 => ?_) (fun h8 => ?_)
          · refine M.go rfl ?_
            have hmn : minI (k : Int) torn = ((min torn.toNat k : Nat) : Int) := by unfold minI; split <;> omega
            rw [hmn, wr64 (n := ((4 + S : Nat) : Int) + ((min torn.toNat k : Nat) : Int)) (by omega) (by omega), show ((4 + S : Nat) : Int) + ((min torn.toNat k : Nat) : Int) = ((4 + (S + min torn.toNat k) : Nat) : Int) by omega]
            rw [show ctr n torn j k = min torn.toNat k by rw [ctr, if_neg h5, if_pos ⟨h6, by omega⟩]] at ih'
            rw [hw2]
            exact M.again (XH.ren [(0, 0), (1, 1), (2, 2), (3, 5)] ih' rfl (by repeat' (first | exact True.intro | refine ⟨⟨_, _, rfl, rfl, Wk.rfl⟩, ?_⟩ | refine ⟨⟨_, _, accV_ren rfl, rfl, Wk.rfl⟩, ?_⟩ | refine ⟨⟨_, _, accV_ren rfl, rfl, Wk.acc0⟩, ?_⟩ | refine ⟨⟨_, _, rfl, rfl, Wk.uncap⟩, ?_⟩ | refine ⟨⟨_, _, rfl, rfl, Wk.nil⟩, ?_⟩)) (by repeat' (first | exact True.intro | refine ⟨⟨_, _, _, rfl, rfl, rfl, WkO.rfl⟩, ?_⟩ | refine HeapOK.acc rfl rfl ?_ | refine HeapOK.es rfl rfl ?_)))
          · refine M.go rfl ?_
            rw [show ctr n torn j k = 0 by rw [ctr, if_neg h5]; split <;> omega, Nat.add_zero] at ih'
            rw [hw2]
            exact M.again (XH.ren [(0, 0), (1, 1), (2, 2), (3, 5)] ih' rfl (by repeat' (first | exact True.intro | refine ⟨⟨_, _, rfl, rfl, Wk.rfl⟩, ?_⟩ | refine ⟨⟨_, _, accV_ren rfl, rfl, Wk.rfl⟩, ?_⟩ | refine ⟨⟨_, _, accV_ren rfl, rfl, Wk.acc0⟩, ?_⟩ | refine ⟨⟨_, _, rfl, rfl, Wk.uncap⟩, ?_⟩ | refine ⟨⟨_, _, rfl, rfl, Wk.nil⟩, ?_⟩)) (by repeat' (first | exact True.intro | refine ⟨⟨_, _, _, rfl, rfl, rfl, WkO.rfl⟩, ?_⟩ | refine HeapOK.acc rfl rfl ?_ | refine HeapOK.es rfl rfl ?_)))
        · refine M.go rfl ?_
          rw [show ctr n torn j k = 0 by rw [ctr, if_neg h5, if_neg (fun h => h6 h.1)], Nat.add_zero] at ih'
          rw [hw2]
          exact M.again (XH.ren [(0, 0), (1, 1), (2, 2), (3, 5)] ih' rfl (by repeat' (first | exact True.intro | refine ⟨⟨_, _, rfl, rfl, Wk.rfl⟩, ?_⟩ | refine ⟨⟨_, _, accV_ren rfl, rfl, Wk.rfl⟩, ?_⟩ | refine ⟨⟨_, _, accV_ren rfl, rfl, Wk.acc0⟩, ?_⟩ | refine ⟨⟨_, _, rfl, rfl, Wk.uncap⟩, ?_⟩ | refine ⟨⟨_, _, rfl, rfl, Wk.nil⟩, ?_⟩)) (by repeat' (first | exact True.intro | refine ⟨⟨_, _, _, rfl, rfl, rfl, WkO.rfl⟩, ?_⟩ | refine HeapOK.acc rfl rfl ?_ | refine HeapOK.es rfl rfl ?_)))
    · obtain rfl : r = (k : Int) := by omega
      refine M.go rfl ?_
      refine M.op trivial (SOp.mkS1 (k := k) (z := .int .u8 0) rfl rfl rfl rfl (by omega)) ?_
      refine M.freezeO (i := 45) rfl rfl (by simp) ?_
      rw [← zs_P]
      refine M.use trivial A [(0, 0), (1, 1), (2, 2), (3, 3)] rfl rfl rfl (by repeat' (first | exact True.intro | refine ⟨⟨_, _, _, rfl, rfl, rfl, WkO.rfl⟩, ?_⟩ | refine HeapOK.acc rfl rfl ?_ | refine HeapOK.es rfl rfl ?_)) rfl rfl ?_
      refine M.go rfl ?_
      refine M.condN rfl (fun hn => absurd rfl hn) (fun _ => ?_)
      refine M.go rfl ?_
      refine M.cond rfl (fun h5 => ?_) (fun h5 => ?_)
      · refine M.go rfl ?_
        rw [wr64 (n := ((4 + S : Nat) : Int) + (k : Int)) (by omega) (by omega), show ((4 + S : Nat) : Int) + (k : Int) = ((4 + (S + k) : Nat) : Int) by omega]
        refine M.dec rfl (fun h6 => absurd h6 (by omega)) (fun h6 => ?_)
        refine M.go rfl ?_
        rw [show ctr n torn j k = k from if_pos h5] at ih'
        rw [hw2]
        exact M.again (XH.ren [(0, 0), (1, 1), (2, 2), (3, 5)] ih' rfl (by repeat' (first | exact True.intro | refine ⟨⟨_, _, rfl, rfl, Wk.rfl⟩, ?_⟩ | refine ⟨⟨_, _, accV_ren rfl, rfl, Wk.rfl⟩, ?_⟩ | refine ⟨⟨_, _, accV_ren rfl, rfl, Wk.acc0⟩, ?_⟩ | refine ⟨⟨_, _, rfl, rfl, Wk.uncap⟩, ?_⟩ | refine ⟨⟨_, _, rfl, rfl, Wk.nil⟩, ?_⟩)) (by repeat' (first | exact True.intro | refine ⟨⟨_, _, _, rfl, rfl, rfl, WkO.rfl⟩, ?_⟩ | refine HeapOK.acc rfl rfl ?_ | refine HeapOK.es rfl rfl ?_)))
      · refine M.go rfl ?_
        refine M.dec rfl (fun h6 => ?_) (fun h6 => ?_)
        · refine M.go rfl ?_
          refine M.dec rfl (fun h7 => ?_) (fun h7 => absurd (by omega) h7)
          refine M.go rfl ?_
          refine M.cond rfl (fun h8 => ?_) (fun h8 => ?_)
          · refine M.go rfl ?_
            have hmn : minI (k : Int) torn = ((min torn.toNat k : Nat) : Int) := by unfold minI; split <;> omega
            rw [hmn, wr64 (n := ((4 + S : Nat) : Int) + ((min torn.toNat k : Nat) : Int)) (by omega) (by omega), show ((4 + S : Nat) : Int) + ((min torn.toNat k : Nat) : Int) = ((4 + (S + min torn.toNat k) : Nat) : Int) by omega]
            rw [show ctr n torn j k = min torn.toNat k by rw [ctr, if_neg h5, if_pos ⟨h6, by omega⟩]] at ih'
            rw [hw2]
            exact M.again (XH.ren [(0, 0), (1, 1), (2, 2), (3, 5)] ih' rfl (by repeat' (first | exact True.intro | refine ⟨⟨_, _, rfl, rfl, Wk.rfl⟩, ?_⟩ | refine ⟨⟨_, _, accV_ren rfl, rfl, Wk.rfl⟩, ?_⟩ | refine ⟨⟨_, _, accV_ren rfl, rfl, Wk.acc0⟩, ?_⟩ | refine ⟨⟨_, _, rfl, rfl, Wk.uncap⟩, ?_⟩ | refine ⟨⟨_, _, rfl, rfl, Wk.nil⟩, ?_⟩)) (by repeat' (first | exact True.intro | refine ⟨⟨_, _, _, rfl, rfl, rfl, WkO.rfl⟩, ?_⟩ | refine HeapOK.acc rfl rfl ?_ | refine HeapOK.es rfl rfl ?_)))
          · refine M.go rfl ?_
            rw [show ctr n torn j k = 0 by rw [ctr, if_neg h5]; split <;> omega, Nat.add_zero] at ih'
            rw [hw2]
            exact M.again (XH.ren [(0, 0), (1, 1), (2, 2), (3, 5)] ih' rfl (by repeat' (first | exact True.intro | refine ⟨⟨_, _, rfl, rfl, Wk.rfl⟩, ?_⟩ | refine ⟨⟨_, _, accV_ren rfl, rfl, Wk.rfl⟩, ?_⟩ | refine ⟨⟨_, _, accV_ren rfl, rfl, Wk.acc0⟩, ?_⟩ | refine ⟨⟨_, _, rfl, rfl, Wk.uncap⟩, ?_⟩ | refine ⟨⟨_, _, rfl, rfl, Wk.nil⟩, ?_⟩)) (by repeat' (first | exact True.intro | refine ⟨⟨_, _, _, rfl, rfl, rfl, WkO.rfl⟩, ?_⟩ | refine HeapOK.acc rfl rfl ?_ | refine HeapOK.es rfl rfl ?_)))
        · refine M.go rfl ?_
          rw [show ctr n torn j k = 0 by rw [ctr, if_neg h5, if_neg (fun h => h6 h.1)], Nat.add_zero] at ih'
          rw [hw2]
          exact M.again (XH.ren [(0, 0), (1, 1), (2, 2), (3, 5)] ih' rfl (by repeat' (first | exact True.intro | refine ⟨⟨_, _, rfl, rfl, Wk.rfl⟩, ?_⟩ | refine ⟨⟨_, _, accV_ren rfl, rfl, Wk.rfl⟩, ?_⟩ | refine ⟨⟨_, _, accV_ren rfl, rfl, Wk.acc0⟩, ?_⟩ | refine ⟨⟨_, _, rfl, rfl, Wk.uncap⟩, ?_⟩ | refine ⟨⟨_, _, rfl, rfl, Wk.nil⟩, ?_⟩)) (by repeat' (first | exact True.intro | refine ⟨⟨_, _, _, rfl, rfl, rfl, WkO.rfl⟩, ?_⟩ | refine HeapOK.acc rfl rfl ?_ | refine HeapOK.es rfl rfl ?_)))
theorem torn_first (z : Bool) (T : List Int) (ct : Option Nat) (n torn : Int) (Q : QX) (hq0 : ksT T = [] → Q (.exit 0) (toX n torn 0) (hD0 mB (tF 0 none) 1 (tF 0 none) 1)) (hq : ∀ k0 pr cp, ksT T = k0 :: pr → Q (.exit 0) (toX n torn (ctrs n torn 0 (ksT T))) (hD1 3 mB (tF 0 none) 1 (tF (ksT T).sum cp) 1 (tcg k0).pc (pcs pr))) :
    XH Try.prog base lTo.1.n 0 (lTo.1.c.lp 0) (toE z T ct n torn 0 0) (hD0 mB (tF 0 none) 1 (tF 0 none) 1) Q := by
  have hTl : (inP T).length = T.length := by simp [inP]
  have hkl := ksT_len T
  rcases hks : ksT T with _ | ⟨k, rest⟩
  · have hq' := hq0 hks
    have hl0 : T.length = 0 := by rw [hks] at hkl; simp at hkl; omega
    refine M.round (M.go rfl ?_)
    refine M.dec rfl (fun h1 => absurd h1 (by rw [hTl]; omega)) (fun h1 => ?_)
    refine M.go rfl ?_
    refine M.ren [(0, 0), (1, 1), (2, 2)] ?_ trivial rfl (by repeat' (first | exact True.intro | refine ⟨⟨_, _, rfl, rfl, Wk.rfl⟩, ?_⟩ | refine ⟨⟨_, _, accV_ren rfl, rfl, Wk.rfl⟩, ?_⟩ | refine ⟨⟨_, _, accV_ren rfl, rfl, Wk.acc0⟩, ?_⟩ | refine ⟨⟨_, _, rfl, rfl, Wk.uncap⟩, ?_⟩ | refine ⟨⟨_, _, rfl, rfl, Wk.nil⟩, ?_⟩)) (by repeat' (first | exact True.intro | refine ⟨⟨_, _, _, rfl, rfl, rfl, WkO.rfl⟩, ?_⟩ | refine HeapOK.acc rfl rfl ?_ | refine HeapOK.es rfl rfl ?_)) (e' := toX n torn 0) (h' := hD0 mB (tF 0 none) 1 (tF 0 none) 1)
    exact M.exit (M.go rfl (M.done hq'))
  · obtain ⟨t, hu, hk, hlt, h20'⟩ := ksT_at (pre := []) hks
    have hk49 := kz_le t
    have ih' := torn_loop (base := base) z T ct n torn Q hq rest k [] (cpN 0 k none) hks
    have hck := ctr_le n torn 0 k
    rw [show ctrs n torn 0 [k] = ctr n torn 0 k from rfl, show ([k] : List Nat).sum = k by simp, show ([k] : List Nat).length = 0 + 1 from rfl] at ih'
    have A := tap0 (base := base) 0 k none (by omega) (by omega)
    rw [Nat.zero_add] at A
    obtain ⟨j, hj⟩ : ∃ j : Nat, j = 0 := ⟨_, rfl⟩
    obtain ⟨S, hS⟩ : ∃ S : Nat, S = 0 := ⟨_, rfl⟩
    rw [show ctr n torn 0 k = S + ctr n torn j k by rw [hS, hj, Nat.zero_add], show 0 + 1 = j + 1 by rw [hj]] at ih'
    rw [show ([] : List Nat).length = j from hj.symm] at hu hlt h20'
    rw [← hj] at hck
    show XH Try.prog base lTo.1.n 0 (lTo.1.c.lp 0) (toE z T ct n torn 0 0) (hD0 mB (tF 0 none) 1 (tF 0 none) 1) Q
    have e1 : toE z T ct n torn 0 0 = toE z T ct n torn S j := by rw [hS, hj]
    rw [e1]
    have hS0 : S ≤ 0 := by omega
    clear hS e1
    have hw2 : IntKind.i64.wrap ((j : Int) + 1) = ((j + 1 : Nat) : Int) := by rw [wr64 (by omega) (by omega)]; omega
    have hu' : (inP T)[((j : Int)).toNat]? = some (.int .i64 t) := by rw [show ((j : Int)).toNat = j by omega]; exact hu
    refine M.round (M.go rfl ?_)
    refine M.dec rfl (fun h1 => ?_) (fun h1 => absurd (by rw [hTl]; omega) h1)
    refine M.go rfl ?_
    refine M.cond rfl (fun _ => ?_) (fun h2 => absurd (by omega) h2)
    refine M.go rfl ?_
    refine M.op trivial (SOp.ia rfl rfl (by omega) hu') ?_
    refine M.op trivial (SOp.ld1e rfl hu' rfl rfl rfl) ?_
    refine M.go rfl ?_
    refine M.op trivial (SOp.remK rfl rfl (by omega)) ?_
    unfold kz at hk
    obtain ⟨hk1, hk2, hk3⟩ := hk49
    unfold kz at hk1
    generalize t.tmod 50 = r at hk hk1 hk2 hk3
    refine M.go rfl ?_
    refine M.cond rfl (fun h4 => ?_) (fun h4 => ?_)
    · refine M.go rfl ?_
      rw [show IntKind.i64.wrap (0 - r) = (k : Int) by rw [wr64 (by omega) (by omega)]; omega]
      refine M.op trivial (SOp.mkS1 (k := k) (z := .int .u8 0) rfl rfl rfl rfl (by omega)) ?_
      refine M.freezeO (i := 45) rfl rfl (by simp) ?_
      rw [← zs_P]
      refine M.use trivial A [(0, 0), (1, 1), (2, 2)] rfl rfl rfl (by repeat' (first | exact True.intro | refine ⟨⟨_, _, _, rfl, rfl, rfl, WkO.rfl⟩, ?_⟩ | refine HeapOK.acc rfl rfl ?_ | refine HeapOK.es rfl rfl ?_)) rfl rfl ?_
      refine M.go rfl ?_
      refine M.condN rfl (fun hn => absurd rfl hn) (fun _ => ?_)
      refine M.go rfl ?_
      refine M.cond rfl (fun h5 => ?_) (fun h5 => ?_)
      · refine M.go rfl ?_
        rw [wr64 (n := ((4 + S : Nat) : Int) + (k : Int)) (by omega) (by omega), show ((4 + S : Nat) : Int) + (k : Int) = ((4 + (S + k) : Nat) : Int) by omega]
        refine M.dec rfl (fun h6 => absurd h6 (by omega)) (fun h6 => ?_)
        refine M.go rfl ?_
        rw [show ctr n torn j k = k from if_pos h5] at ih'
        rw [hw2]
        exact M.again (XH.ren [(0, 0), (1, 1), (2, 2), (3, 4)] ih' rfl (by repeat' (first | exact True.intro | refine ⟨⟨_, _, rfl, rfl, Wk.rfl⟩, ?_⟩ | refine ⟨⟨_, _, accV_ren rfl, rfl, Wk.rfl⟩, ?_⟩ | refine ⟨⟨_, _, accV_ren rfl, rfl, Wk.acc0⟩, ?_⟩ | refine ⟨⟨_, _, rfl, rfl, Wk.uncap⟩, ?_⟩ | refine ⟨⟨_, _, rfl, rfl, Wk.nil⟩, ?_⟩)) (by repeat' (first | exact True.intro | refine ⟨⟨_, _, _, rfl, rfl, rfl, WkO.rfl⟩, ?_⟩ | refine HeapOK.acc rfl rfl ?_ | refine HeapOK.es rfl rfl ?_)))
      · refine M.go rfl ?_
        refine M.dec rfl (fun h6 => ?_) (fun h6 => ?_)
        · refine M.go rfl ?_
          refine M.dec rfl (fun h7 => ?_) (fun h7 => absurd (by omega) h7)
          refine M.go rfl ?_
          refine M.cond rfl (fun h8 => ?_) (fun h8 => ?_)
          · refine M.go rfl ?_
            have hmn : minI (k : Int) torn = ((min torn.toNat k : Nat) : Int) := by unfold minI; split <;> omega
            rw [hmn, wr64 (n := ((4 + S : Nat) : Int) + ((min torn.toNat k : Nat) : Int)) (by omega) (by omega), show ((4 + S : Nat) : Int) + ((min torn.toNat k : Nat) : Int) = ((4 + (S + min torn.toNat k) : Nat) : Int) by omega]
            rw [show ctr n torn j k = min torn.toNat k by rw [ctr, if_neg h5, if_pos ⟨h6, by omega⟩]] at ih'
            rw [hw2]
            exact M.again (XH.ren [(0, 0), (1, 1), (2, 2), (3, 4)] ih' rfl (by repeat' (first | exact True.intro | refine ⟨⟨_, _, rfl, rfl, Wk.rfl⟩, ?_⟩ | refine ⟨⟨_, _, accV_ren rfl, rfl, Wk.rfl⟩, ?_⟩ | refine ⟨⟨_, _, accV_ren rfl, rfl, Wk.acc0⟩, ?_⟩ | refine ⟨⟨_, _, rfl, rfl, Wk.uncap⟩, ?_⟩ | refine ⟨⟨_, _, rfl, rfl, Wk.nil⟩, ?_⟩)) (by repeat' (first | exact True.intro | refine ⟨⟨_, _, _, rfl, rfl, rfl, WkO.rfl⟩, ?_⟩ | refine HeapOK.acc rfl rfl ?_ | refine HeapOK.es rfl rfl ?_)))
          · refine M.go rfl ?_
            rw [show ctr n torn j k = 0 by rw [ctr, if_neg h5]; split <;> omega, Nat.add_zero] at ih'
            rw [hw2]
            exact M.again (XH.ren [(0, 0), (1, 1), (2, 2), (3, 4)] ih' rfl (by repeat' (first | exact True.intro | refine ⟨⟨_, _, rfl, rfl, Wk.rfl⟩, ?_⟩ | refine ⟨⟨_, _, accV_ren rfl, rfl, Wk.rfl⟩, ?_⟩ | refine ⟨⟨_, _, accV_ren rfl, rfl, Wk.acc0⟩, ?_⟩ | refine ⟨⟨_, _, rfl, rfl, Wk.uncap⟩, ?_⟩ | refine ⟨⟨_, _, rfl, rfl, Wk.nil⟩, ?_⟩)) (by repeat' (first | exact True.intro | refine ⟨⟨_, _, _, rfl, rfl, rfl, WkO.rfl⟩, ?_⟩ | refine HeapOK.acc rfl rfl ?_ | refine HeapOK.es rfl rfl ?_)))
        · refine M.go rfl ?_
          rw [show ctr n torn j k = 0 by rw [ctr, if_neg h5, if_neg (fun h => h6 h.1)], Nat.add_zero] at ih'
          rw [hw2]
          exact M.again (XH.ren [(0, 0), (1, 1), (2, 2), (3, 4)] ih' rfl (by repeat' (first | exact True.intro | refine ⟨⟨_, _, rfl, rfl, Wk.rfl⟩, ?_⟩ | refine ⟨⟨_, _, accV_ren rfl, rfl, Wk.rfl⟩, ?_⟩ | refine ⟨⟨_, _, accV_ren rfl, rfl, Wk.acc0⟩, ?_⟩ | refine ⟨⟨_, _, rfl, rfl, Wk.uncap⟩, ?_⟩ | refine ⟨⟨_, _, rfl, rfl, Wk.nil⟩, ?_⟩)) (by repeat' (first | exact True.intro | refine ⟨⟨_, _, _, rfl, rfl, rfl, WkO.rfl⟩, ?_⟩ | refine HeapOK.acc rfl rfl ?_ | refine HeapOK.es rfl rfl ?_)))
    · obtain rfl : r = (k : Int) := by omega
      refine M.go rfl ?_
      refine M.op trivial (SOp.mkS1 (k := k) (z := .int .u8 0) rfl rfl rfl rfl (by omega)) ?_
      refine M.freezeO (i := 45) rfl rfl (by simp) ?_
      rw [← zs_P]
      refine M.use trivial A [(0, 0), (1, 1), (2, 2)] rfl rfl rfl (by repeat' (first | exact True.intro | refine ⟨⟨_, _, _, rfl, rfl, rfl, WkO.rfl⟩, ?_⟩ | refine HeapOK.acc rfl rfl ?_ | refine HeapOK.es rfl rfl ?_)) rfl rfl ?_
      refine M.go rfl ?_
      refine M.condN rfl (fun hn => absurd rfl hn) (fun _ => ?_)
      refine M.go rfl ?_
      refine M.cond rfl (fun h5 => ?_) (fun h5 => ?_)
      · refine M.go rfl ?_
        rw [wr64 (n := ((4 + S : Nat) : Int) + (k : Int)) (by omega) (by omega), show ((4 + S : Nat) : Int) + (k : Int) = ((4 + (S + k) : Nat) : Int) by omega]
        refine M.dec rfl (fun h6 => absurd h6 (by omega)) (fun h6 => ?_)
        refine M.go rfl ?_
        rw [show ctr n torn j k = k from if_pos h5] at ih'
        rw [hw2]
        exact M.again (XH.ren [(0, 0), (1, 1), (2, 2), (3, 4)] ih' rfl (by repeat' (first | exact True.intro | refine ⟨⟨_, _, rfl, rfl, Wk.rfl⟩, ?_⟩ | refine ⟨⟨_, _, accV_ren rfl, rfl, Wk.rfl⟩, ?_⟩ | refine ⟨⟨_, _, accV_ren rfl, rfl, Wk.acc0⟩, ?_⟩ | refine ⟨⟨_, _, rfl, rfl, Wk.uncap⟩, ?_⟩ | refine ⟨⟨_, _, rfl, rfl, Wk.nil⟩, ?_⟩)) (by repeat' (first | exact True.intro | refine ⟨⟨_, _, _, rfl, rfl, rfl, WkO.rfl⟩, ?_⟩ | refine HeapOK.acc rfl rfl ?_ | refine HeapOK.es rfl rfl ?_)))
      · refine M.go rfl ?_
        refine M.dec rfl (fun h6 => ?_) (fun h6 => ?_)
        · refine M.go rfl ?_
          refine M.dec rfl (fun h7 => ?_) (fun h7 => absurd (by omega) h7)
          refine M.go rfl ?_
          refine M.cond rfl (fun h8 => ?_) (fun h8 => ?_)
          · refine M.go rfl ?_
            have hmn : minI (k : Int) torn = ((min torn.toNat k : Nat) : Int) := by unfold minI; split <;> omega
            rw [hmn, wr64 (n := ((4 + S : Nat) : Int) + ((min torn.toNat k : Nat) : Int)) (by omega) (by omega), show ((4 + S : Nat) : Int) + ((min torn.toNat k : Nat) : Int) = ((4 + (S + min torn.toNat k) : Nat) : Int) by omega]
            rw [show ctr n torn j k = min torn.toNat k by rw [ctr, if_neg h5, if_pos ⟨h6, by omega⟩]] at ih'
            rw [hw2]
            exact M.again (XH.ren [(0, 0), (1, 1), (2, 2), (3, 4)] ih' rfl (by repeat' (first | exact True.intro | refine ⟨⟨_, _, rfl, rfl, Wk.rfl⟩, ?_⟩ | refine ⟨⟨_, _, accV_ren rfl, rfl, Wk.rfl⟩, ?_⟩ | refine ⟨⟨_, _, accV_ren rfl, rfl, Wk.acc0⟩, ?_⟩ | refine ⟨⟨_, _, rfl, rfl, Wk.uncap⟩, ?_⟩ | refine ⟨⟨_, _, rfl, rfl, Wk.nil⟩, ?_⟩)) (by repeat' (first | exact True.intro | refine ⟨⟨_, _, _, rfl, rfl, rfl, WkO.rfl⟩, ?_⟩ | refine HeapOK.acc rfl rfl ?_ | refine HeapOK.es rfl rfl ?_)))
          · refine M.go rfl ?_
            rw [show ctr n torn j k = 0 by rw [ctr, if_neg h5]; split <;> omega, Nat.add_zero] at ih'
            rw [hw2]
            exact M.again (XH.ren [(0, 0), (1, 1), (2, 2), (3, 4)] ih' rfl (by repeat' (first | exact True.intro | refine ⟨⟨_, _, rfl, rfl, Wk.rfl⟩, ?_⟩ | refine ⟨⟨_, _, accV_ren rfl, rfl, Wk.rfl⟩, ?_⟩ | refine ⟨⟨_, _, accV_ren rfl, rfl, Wk.acc0⟩, ?_⟩ | refine ⟨⟨_, _, rfl, rfl, Wk.uncap⟩, ?_⟩ | refine ⟨⟨_, _, rfl, rfl, Wk.nil⟩, ?_⟩)) (by repeat' (first | exact True.intro | refine ⟨⟨_, _, _, rfl, rfl, rfl, WkO.rfl⟩, ?_⟩ | refine HeapOK.acc rfl rfl ?_ | refine HeapOK.es rfl rfl ?_)))
        · refine M.go rfl ?_
          rw [show ctr n torn j k = 0 by rw [ctr, if_neg h5, if_neg (fun h => h6 h.1)], Nat.add_zero] at ih'
          rw [hw2]
          exact M.again (XH.ren [(0, 0), (1, 1), (2, 2), (3, 4)] ih' rfl (by repeat' (first | exact True.intro | refine ⟨⟨_, _, rfl, rfl, Wk.rfl⟩, ?_⟩ | refine ⟨⟨_, _, accV_ren rfl, rfl, Wk.rfl⟩, ?_⟩ | refine ⟨⟨_, _, accV_ren rfl, rfl, Wk.acc0⟩, ?_⟩ | refine ⟨⟨_, _, rfl, rfl, Wk.uncap⟩, ?_⟩ | refine ⟨⟨_, _, rfl, rfl, Wk.nil⟩, ?_⟩)) (by repeat' (first | exact True.intro | refine ⟨⟨_, _, _, rfl, rfl, rfl, WkO.rfl⟩, ?_⟩ | refine HeapOK.acc rfl rfl ?_ | refine HeapOK.es rfl rfl ?_)))
theorem sub_f (m : Nat) (cp : Option Nat) : findP nmF (tF m cp) = some (fP false (syn ++ zs m) cp) := rfl
theorem DiskTorn_spec (z : Bool) (T : List Int) (ct : Option Nat) (n torn : Int) : CallS Try.prog base 10 [.c (.p (.tz z 1 (inP T) ct)), .c (.p (.int .i64 n)), .c (.p (.int .i64 torn))] ⟨[], 0⟩ (.c (.p (.bool true))) ⟨[], 0⟩ := by
  refine CallS.of noNG lTo.2 rfl (M.start (M.go rfl ?_))
  refine M.use0 trivial begun3_spec rfl rfl rfl ?_
  refine M.go rfl ?_
  refine M.use trivial (dnew_spec 1048576) [] rfl rfl rfl trivial rfl rfl ?_
  refine M.go rfl ?_
  refine M.op trivial (SOp.cvO rfl rfl (by decide)) ?_
  refine M.freezeO (i := 20) rfl rfl rfl ?_
  refine M.use trivial (append0_spec mB [] 0 [] 0 nmF false syn (some 4) may_f (f0_ok 0) (by decide) (by decide) (.inr (by decide)) _ _ (do_first nmF [] 0 false syn none (by decide) (by decide))) [(0, 0), (1, 1), (2, 2)] rfl rfl rfl (by repeat' (first | exact True.intro | refine ⟨⟨_, _, _, rfl, rfl, rfl, WkO.rfl⟩, ?_⟩ | refine HeapOK.acc rfl rfl ?_ | refine HeapOK.es rfl rfl ?_)) rfl rfl ?_
  refine M.go rfl ?_
  refine M.use trivial (sync1_spec mB [] 0 (f1 nmF (fP false syn none)) 1 _ _) [(0, 0), (1, 1), (2, 2), (3, 4)] rfl rfl rfl (by repeat' (first | exact True.intro | refine ⟨⟨_, _, _, rfl, rfl, rfl, WkO.rfl⟩, ?_⟩ | refine HeapOK.acc rfl rfl ?_ | refine HeapOK.es rfl rfl ?_)) rfl rfl ?_
  refine M.go rfl ?_
  refine M.loop (XH.ren [(0, 0), (1, 5), (2, 2)] (torn_first z T ct n torn _ (fun hk => ?_) (fun k0 pr cp hk => ?_)) rfl (by repeat' (first | exact True.intro | refine ⟨⟨_, _, rfl, rfl, Wk.rfl⟩, ?_⟩ | refine ⟨⟨_, _, accV_ren rfl, rfl, Wk.rfl⟩, ?_⟩ | refine ⟨⟨_, _, accV_ren rfl, rfl, Wk.acc0⟩, ?_⟩ | refine ⟨⟨_, _, rfl, rfl, Wk.uncap⟩, ?_⟩ | refine ⟨⟨_, _, rfl, rfl, Wk.nil⟩, ?_⟩)) (by repeat' (first | exact True.intro | refine ⟨⟨_, _, _, rfl, rfl, rfl, WkO.rfl⟩, ?_⟩ | refine HeapOK.acc rfl rfl ?_ | refine HeapOK.es rfl rfl ?_)))
  · refine M.q (M.go rfl ?_)
    refine M.use trivial (crash0_spec mB (tF 0 none) 1 (tF 0 none) 1 n torn) [(0, 0), (1, 1), (2, 2)] rfl rfl rfl (by repeat' (first | exact True.intro | refine ⟨⟨_, _, _, rfl, rfl, rfl, WkO.rfl⟩, ?_⟩ | refine HeapOK.acc rfl rfl ?_ | refine HeapOK.es rfl rfl ?_)) rfl rfl ?_
    refine M.go rfl ?_
    refine M.use trivial (read0_spec mB (tF 0 none) 1 (tF 0 none) 1 nmF false (syn ++ zs 0) none rfl (by decide)) [(0, 3), (1, 4), (2, 5)] rfl rfl rfl (by repeat' (first | exact True.intro | refine ⟨⟨_, _, _, rfl, rfl, rfl, WkO.rfl⟩, ?_⟩ | refine HeapOK.acc rfl rfl ?_ | refine HeapOK.es rfl rfl ?_)) rfl rfl ?_
    refine M.go rfl ?_
    refine M.dec rfl (fun _ => ?_) (fun hn => absurd (by decide) hn)
    refine M.go rfl ?_
    refine M.op (by first | exact True.intro | exact rfl) (SOp.sl (l := 0) (r := 4) rfl rfl ⟨_, _, rfl, by decide, rfl⟩ (by decide) (by rw [u8P_len]; simp [syn])) ?_
    rw [List.drop_zero, Nat.sub_zero, u8P_take, show (syn ++ zs 0).take 4 = syn by simp [syn]]
    refine M.go rfl ?_
    refine M.op (by first | exact True.intro | exact rfl) (SOp.cvBS (l := [115, 121, 110, 99]) rfl rfl) ?_
    refine M.go rfl ?_
    refine M.decC (s := 6) rfl (fun _ => ?_) (fun hn => by cases hn)
    exact M.ret (M.go rfl (M.done (finQ.ret [] rfl rfl rfl (by first | exact Wk.rfl | exact Wk.uncap | exact Wk.nil | exact Wk.b1 rfl | exact Wk.t2 Wk.rfl (Wk.b1 rfl)) (by repeat' (first | exact True.intro | refine ⟨⟨_, _, _, rfl, rfl, rfl, WkO.rfl⟩, ?_⟩ | refine HeapOK.acc rfl rfl ?_ | refine HeapOK.es rfl rfl ?_)))))
  · have hle := ksT_le T
    have hl := ksT_len T
    obtain ⟨cp', hc⟩ := torn_cr n torn (ksT T) 0 0 none hle (by omega)
    rw [Nat.zero_add] at hc
    have hcl := ctrs_le n torn (ksT T) 0 hle
    obtain ⟨S, hS⟩ : ∃ S, S = ctrs n torn 0 (ksT T) := ⟨_, rfl⟩
    rw [← hS] at hc hcl ⊢
    refine M.q (M.go rfl ?_)
    refine M.use trivial (crash1_spec mB (tF 0 none) 1 (tF (ksT T).sum cp) 1 (tcg k0).pc (pcs pr) ((ksT T).map tcg) (by rw [hk]; simp [pcs]) (by rw [List.length_map]; omega) n torn _ hc) [(0, 0), (1, 1), (2, 2), (3, 3)] rfl rfl rfl (by repeat' (first | exact True.intro | refine ⟨⟨_, _, _, rfl, rfl, rfl, WkO.rfl⟩, ?_⟩ | refine HeapOK.acc rfl rfl ?_ | refine HeapOK.es rfl rfl ?_)) rfl rfl ?_
    refine M.go rfl ?_
    refine M.use trivial (read0_spec mB (tF S cp') 1 (tF S cp') 1 nmF false (syn ++ zs S) cp' rfl (by simp [syn, zs]; omega)) [(0, 4), (1, 5), (2, 6)] rfl rfl rfl (by repeat' (first | exact True.intro | refine ⟨⟨_, _, _, rfl, rfl, rfl, WkO.rfl⟩, ?_⟩ | refine HeapOK.acc rfl rfl ?_ | refine HeapOK.es rfl rfl ?_)) rfl rfl ?_
    refine M.go rfl ?_
    refine M.dec rfl (fun _ => ?_) (fun hn => absurd (by rw [u8P_len, List.length_append, zs_len]; rfl) hn)
    refine M.go rfl ?_
    refine M.op (by first | exact True.intro | exact rfl) (SOp.sl (l := 0) (r := 4) rfl rfl ⟨_, _, rfl, by decide, rfl⟩ (by decide) (by rw [u8P_len]; simp [syn])) ?_
    rw [List.drop_zero, Nat.sub_zero, u8P_take, show (syn ++ zs S).take 4 = syn by simp [syn]]
    refine M.go rfl ?_
    refine M.op (by first | exact True.intro | exact rfl) (SOp.cvBS (l := [115, 121, 110, 99]) rfl rfl) ?_
    refine M.go rfl ?_
    refine M.decC (s := 6) rfl (fun _ => ?_) (fun hn => by cases hn)
    exact M.ret (M.go rfl (M.done (finQ.ret [] rfl rfl rfl (by first | exact Wk.rfl | exact Wk.uncap | exact Wk.nil | exact Wk.b1 rfl | exact Wk.t2 Wk.rfl (Wk.b1 rfl)) (by repeat' (first | exact True.intro | refine ⟨⟨_, _, _, rfl, rfl, rfl, WkO.rfl⟩, ?_⟩ | refine HeapOK.acc rfl rfl ?_ | refine HeapOK.es rfl rfl ?_)))))
theorem DiskTorn_law {p0 p1 p2 : PC} (h0 : Is (.sl 1 8 (.int .i64)) p0) (h1 : Is (.int .i64) p1) (h2 : Is (.int .i64) p2) : CallS Try.prog base 10 [xvP p0, xvP p1, xvP p2] ⟨[], 0⟩ (.c (.p (.bool true))) ⟨[], 0⟩ := by
  obtain ⟨z, T, rfl, hT, -⟩ := h0.ints
  obtain ⟨n, rfl, -⟩ := h1.i64
  obtain ⟨torn, rfl, -⟩ := h2.i64
  exact DiskTorn_spec z T none n torn
end Go.Proofs.Ytjlfojgacnphmaa

namespace Go.Proofs.Ytjlfojgacnphmaa
open Go.RowKit Sim Go Sym
set_option maxRecDepth 100000
set_option linter.unusedVariables false
set_option linter.unusedSimpArgs false
variable {base : Nat}
theorem may_g : CallS Try.prog base 70 [.c (.p (.str [103]))] ⟨[], 0⟩ (.c (.p (.bool true))) ⟨[], 0⟩ := CallS.reck (m := 200) (h' := noMem) mixed noNG (by kernel_rfl)
theorem may_h : CallS Try.prog base 70 [.c (.p (.str [104]))] ⟨[], 0⟩ (.c (.p (.bool true))) ⟨[], 0⟩ := CallS.reck (m := 200) (h' := noMem) mixed noNG (by kernel_rfl)
def neF (b : List Int) : PC := apF true [] b
theorem neF_fP (b : List Int) : ∃ z cp, neF b = fP z b cp := by
  unfold neF apF
  split
  · rename_i h; subst h; exact ⟨true, some 0, rfl⟩
  · exact ⟨false, none, rfl⟩
def fg (a b : PC) : FS := [(0, [102], a), (1, [103], b)]
def fgM (b : PC) : FS := [(0, [102], b)]
def fgH (b h : PC) (c : Nat) : FS := [(0, [102], b), (c, [104], h)]
def lat : List Int := [108, 97, 116, 101, 114]
theorem FOK.of (F : FS) (c : Nat) (h1 : ∀ e ∈ F, e.1 < c) (h2 : (F.map (·.1)).Nodup) (h3 : ∀ e ∈ F, ∃ z bs cp, e.2.2 = fP z bs cp) : FOK F c := ⟨h1, h2, h3⟩
theorem lenP_fP (z : Bool) (b : List Int) (cp : Option Nat) : lenP (fP z b cp) = b.length := u8P_len b
noncomputable def lDM : {F : LF // lowerF Try.prog 11 = some F} := ⟨_, rfl⟩
theorem bytesX_u8 : ∀ {l : List Int}, Bytes l → bytesX (u8P l) = some (l.map Int.toNat)
  | [], _ => rfl
  | x :: l, h => by
    have h1 := h x (by simp)
    have h2 := bytesX_u8 (l := l) fun y hy => h y (by simp [hy])
    simp only [u8P, List.map_cons] at h2 ⊢
    have h3 : byX (.int .u8 x) = some x.toNat := by
      simp only [byX]
      first | rw [if_pos ⟨h1.1, by omega⟩] | rw [if_pos (by omega)] | skip
    simp only [bytesX, h3, h2]
theorem cut100 (z : Bool) (a : List Int) (c c' : Option Nat) (h : 100 < a.length) : Wk (.c (.p (.tz (z && (u8P a).isEmpty) 1 (u8P (a.take 100)) c))) (.c (.p (.tz z 1 (u8P (a.take 100)) none))) := by
  refine Wk.trans Wk.uncap (Wk.some ?_)
  intro e
  have h1 : (u8P (a.take 100)).length = 0 := by rw [e]; rfl
  rw [u8P_len, List.length_take] at h1
  omega
theorem moves_cr (z1 z2 : Bool) (a b : List Int) (c1 c2 : Option Nat) (n torn : Int) : ∃ t, CrR n torn [⟨3, [103], [102], true, [], none, 0⟩, ⟨0, [104], [], false, lat, none, 0⟩] 0 (fg (fP z1 a c1) (fP z2 b c2), 2) t ∧ findP [102] t.1 = some (if 1 ≤ n then fP z2 b c2 else fP z1 a c1) := by
  have hk : ∀ (F : FS) (c j : Nat), findP [104] F = none → (∀ f, findP [102] (updP [104] f c F) = findP [102] F) → ∃ t, CrR n torn [⟨0, [104], [], false, lat, none, 0⟩] j (F, c) t ∧ findP [102] t.1 = findP [102] F := fun F c j hn hu => by
    by_cases h1 : (j : Int) < n
    · exact ⟨_, ⟨_, by rw [Cr1, if_pos h1]; exact Do.new (x := ⟨0, [104], [], false, lat, none, 0⟩) (k := 5) (F := F) (c := c) rfl (by decide) (by decide) hn, rfl⟩, hu _⟩
    · by_cases h2 : (j : Int) = n ∧ 0 ≤ torn
      · exact ⟨_, ⟨_, by rw [Cr1, if_neg h1, if_pos ⟨h2.1, h2.2, rfl⟩]; exact Do.new (x := ⟨0, [104], [], false, lat, none, 0⟩) (F := F) (c := c) rfl (by show min torn.toNat 5 ≤ 5; omega) (by decide) hn, rfl⟩, hu _⟩
      · exact ⟨_, ⟨_, by rw [Cr1, if_neg h1, if_neg (fun h => h2 ⟨h.1, h.2.1⟩)], rfl⟩, rfl⟩
  by_cases h0 : ((0 : Nat) : Int) < n
  · obtain ⟨t, g1, g2⟩ := hk (fgM (fP z2 b c2)) 2 1 rfl (fun f => rfl)
    refine ⟨t, ⟨(fgM (fP z2 b c2), 2), ?_, g1⟩, ?_⟩
    · rw [Cr1, if_pos h0]
      exact Do.mv (x := ⟨3, [103], [102], true, [], none, 0⟩) (F := fg (fP z1 a c1) (fP z2 b c2)) (c := 2) rfl rfl
    · rw [g2, if_pos (by omega)]; rfl
  · obtain ⟨t, g1, g2⟩ := hk (fg (fP z1 a c1) (fP z2 b c2)) 2 1 rfl (fun f => rfl)
    refine ⟨t, ⟨_, ?_, g1⟩, ?_⟩
    · rw [Cr1, if_neg h0, if_neg (fun h => absurd h.2.2 (by decide))]
    · rw [g2, if_neg (by omega)]; rfl
set_option maxHeartbeats 2000000 in
theorem DiskMoves_spec (za zb : Bool) (a b : List Int) (ca cb : Option Nat) (hBa : Bytes a) (hBb : Bytes b) (n torn : Int) : CallS Try.prog base 11 [.c (.p (.tz za 1 (u8P a) ca)), .c (.p (.tz zb 1 (u8P b) cb)), .c (.p (.int .i64 n)), .c (.p (.int .i64 torn))] ⟨[], 0⟩ (.c (.p (.bool true))) ⟨[], 0⟩ := by
  have hla : (u8P a).length = a.length := u8P_len a
  have hlb : (u8P b).length = b.length := u8P_len b
  refine CallS.of noNG lDM.2 rfl (M.start (M.go rfl ?_))
  refine M.use0 trivial begun3_spec rfl rfl rfl ?_
  refine M.go rfl ?_
  refine M.midV [(0, .c (.p (.tz za 1 (u8P (a.take 100)) none))), (1, .c (.p (.tz zb 1 (u8P b) cb))), (2, .c (.p (.int .i64 n))), (3, .c (.p (.int .i64 torn)))] ⟨[], 0⟩ ?_ ?_
  · refine M.cond rfl (fun h => ?_) (fun h => ?_)
    · refine M.go rfl ?_
      refine M.op trivial (SOp.sl (l := 0) (r := 100) rfl rfl ⟨_, _, rfl, by decide, rfl⟩ (by decide) (by omega)) ?_
      rw [List.drop_zero, Nat.sub_zero, u8P_take]
      refine M.go rfl ?_
      exact M.done ⟨rfl, Sh.ren [] rfl ⟨⟨_, _, rfl, rfl, cut100 za a _ none (by omega)⟩, ⟨_, _, rfl, rfl, Wk.rfl⟩, ⟨_, _, rfl, rfl, Wk.rfl⟩, ⟨_, _, rfl, rfl, Wk.rfl⟩, trivial⟩ (by repeat' (first | exact True.intro | refine ⟨⟨_, _, _, rfl, rfl, rfl, WkO.rfl⟩, ?_⟩ | refine HeapOK.acc rfl rfl ?_ | refine HeapOK.es rfl rfl ?_))⟩
    · rw [List.take_of_length_le (show a.length ≤ 100 by omega)]
      refine M.go rfl ?_
      exact M.done ⟨rfl, Sh.ren [] rfl ⟨⟨_, _, rfl, rfl, Wk.uncap⟩, ⟨_, _, rfl, rfl, Wk.rfl⟩, ⟨_, _, rfl, rfl, Wk.rfl⟩, ⟨_, _, rfl, rfl, Wk.rfl⟩, trivial⟩ (by repeat' (first | exact True.intro | refine ⟨⟨_, _, _, rfl, rfl, rfl, WkO.rfl⟩, ?_⟩ | refine HeapOK.acc rfl rfl ?_ | refine HeapOK.es rfl rfl ?_))⟩
  refine M.go rfl ?_
  refine M.midV [(0, .c (.p (.tz za 1 (u8P (a.take 100)) none))), (1, .c (.p (.tz zb 1 (u8P (b.take 100)) none))), (2, .c (.p (.int .i64 n))), (3, .c (.p (.int .i64 torn)))] ⟨[], 0⟩ ?_ ?_
  · refine M.cond rfl (fun h => ?_) (fun h => ?_)
    · refine M.go rfl ?_
      refine M.op trivial (SOp.sl (l := 0) (r := 100) rfl rfl ⟨_, _, rfl, by decide, rfl⟩ (by decide) (by omega)) ?_
      rw [List.drop_zero, Nat.sub_zero, u8P_take]
      refine M.go rfl ?_
      exact M.done ⟨rfl, Sh.ren [] rfl ⟨⟨_, _, rfl, rfl, Wk.rfl⟩, ⟨_, _, rfl, rfl, cut100 zb b _ none (by omega)⟩, ⟨_, _, rfl, rfl, Wk.rfl⟩, ⟨_, _, rfl, rfl, Wk.rfl⟩, trivial⟩ (by repeat' (first | exact True.intro | refine ⟨⟨_, _, _, rfl, rfl, rfl, WkO.rfl⟩, ?_⟩ | refine HeapOK.acc rfl rfl ?_ | refine HeapOK.es rfl rfl ?_))⟩
    · rw [List.take_of_length_le (show b.length ≤ 100 by omega)]
      refine M.go rfl ?_
      exact M.done ⟨rfl, Sh.ren [] rfl ⟨⟨_, _, rfl, rfl, Wk.rfl⟩, ⟨_, _, rfl, rfl, Wk.uncap⟩, ⟨_, _, rfl, rfl, Wk.rfl⟩, ⟨_, _, rfl, rfl, Wk.rfl⟩, trivial⟩ (by repeat' (first | exact True.intro | refine ⟨⟨_, _, _, rfl, rfl, rfl, WkO.rfl⟩, ?_⟩ | refine HeapOK.acc rfl rfl ?_ | refine HeapOK.es rfl rfl ?_))⟩
  have hA : Bytes (a.take 100) := hBa.take 100
  have hB : Bytes (b.take 100) := hBb.take 100
  have hAl : (a.take 100).length ≤ 100 := by simp; omega
  have hBl : (b.take 100).length ≤ 100 := by simp; omega
  generalize a.take 100 = A at hA hAl
  generalize b.take 100 = B at hB hBl
  obtain ⟨z1, c1, e1⟩ := neF_fP A
  obtain ⟨z2, c2, e2⟩ := neF_fP B
  have d1 : CallS Try.prog base 66 [.c (.mp 0), .agg ((chX 0 [102] [] (fP za A none) 0).map XC.p), .c (.p (.int .i64 A.length))] ⟨[(0, some (fM [] 0))], 1⟩ (.tup []) ⟨[(0, some (fM (f1 [102] (fP z1 A c1)) 1))], 1⟩ := by
    have := do_app0 (base := base) [] 0 [102] [] 0 rfl za A none A.length (Nat.le_refl _) (by omega)
    rw [List.take_length, show apF true [] A = fP z1 A c1 from e1] at this
    exact this
  have d2 : CallS Try.prog base 66 [.c (.mp 0), .agg ((chX 0 [103] [] (fP zb B none) 0).map XC.p), .c (.p (.int .i64 B.length))] ⟨[(0, some (fM (f1 [102] (fP z1 A c1)) 1))], 1⟩ (.tup []) ⟨[(0, some (fM (fg (fP z1 A c1) (fP z2 B c2)) 2))], 1⟩ := by
    have := do_app0 (base := base) (f1 [102] (fP z1 A c1)) 1 [103] [] 0 rfl zb B none B.length (Nat.le_refl _) (by omega)
    rw [List.take_length, show apF true [] B = fP z2 B c2 from e2] at this
    exact this
  have d3 : CallS Try.prog base 66 [.c (.mp 0), .agg ((chX 0 [104] [] (fP false lat none) 0).map XC.p), .c (.p (.int .i64 lat.length))] ⟨[(0, some (fM (fgM (fP z2 B c2)) 2))], 1⟩ (.tup []) ⟨[(0, some (fM (fgH (fP z2 B c2) (fP false lat none) 2) 3))], 1⟩ := by
    have := do_app0 (base := base) (fgM (fP z2 B c2)) 2 [104] [] 0 rfl false lat none lat.length (Nat.le_refl _) (by decide)
    rw [List.take_length, apF_ne (by decide)] at this
    exact this
  have ok1 : FOK (f1 [102] (fP z1 A c1)) 1 := f1_ok _ _ _ _
  have ok3 : FOK (fgM (fP z2 B c2)) 2 := ⟨fun e he => by simp [fgM] at he; subst he; simp, by simp [fgM], fun e he => by simp [fgM] at he; subst he; exact ⟨z2, B, c2, rfl⟩⟩
  have u1 : usedN (f1 [102] (fP z1 A c1)) = A.length := by simp [usedN, f1, lenP_fP]
  have u3 : usedN (fgM (fP z2 B c2)) = B.length := by simp [usedN, fgM, lenP_fP]
  refine M.go rfl ?_
  refine M.use trivial (dnew_spec 1048576) [] rfl rfl rfl trivial rfl rfl ?_
  refine M.go rfl ?_
  refine M.use trivial (append0_spec mB [] 0 [] 0 [102] za A none may_f (f0_ok 0) (by decide) (by rw [mB_eq]; show ((0 + A.length : Nat) : Int) ≤ _; omega) (.inr (by decide)) _ _ d1) [(0, 0), (1, 1), (2, 2)] rfl rfl rfl (by repeat' (first | exact True.intro | refine ⟨⟨_, _, _, rfl, rfl, rfl, WkO.rfl⟩, ?_⟩ | refine HeapOK.acc rfl rfl ?_ | refine HeapOK.es rfl rfl ?_)) rfl rfl ?_
  refine M.go rfl ?_
  refine M.use trivial (append1_spec mB [] 0 (f1 [102] (fP z1 A c1)) 1 _ [] (by decide) [103] zb B none may_g ok1 (by decide) (by rw [mB_eq, u1]; omega) (.inr (by simp [f1])) _ _ d2) [(0, 0), (1, 1), (2, 2), (3, 3)] rfl rfl rfl (by repeat' (first | exact True.intro | refine ⟨⟨_, _, _, rfl, rfl, rfl, WkO.rfl⟩, ?_⟩ | refine HeapOK.acc rfl rfl ?_ | refine HeapOK.es rfl rfl ?_)) rfl rfl ?_
  refine M.go rfl ?_
  refine M.use trivial (sync1_spec mB [] 0 (fg (fP z1 A c1) (fP z2 B c2)) 2 _ _) [(0, 0), (1, 1), (2, 2), (3, 4)] rfl rfl rfl (by repeat' (first | exact True.intro | refine ⟨⟨_, _, _, rfl, rfl, rfl, WkO.rfl⟩, ?_⟩ | refine HeapOK.acc rfl rfl ?_ | refine HeapOK.es rfl rfl ?_)) rfl rfl ?_
  refine M.go rfl ?_
  refine M.use trivial (move0_spec mB (fg (fP z1 A c1) (fP z2 B c2)) 2 (fg (fP z1 A c1) (fP z2 B c2)) 2 [103] [102] may_f z2 B c2 rfl) [(0, 0), (1, 5), (2, 2)] rfl rfl rfl (by repeat' (first | exact True.intro | refine ⟨⟨_, _, _, rfl, rfl, rfl, WkO.rfl⟩, ?_⟩ | refine HeapOK.acc rfl rfl ?_ | refine HeapOK.es rfl rfl ?_)) rfl rfl ?_
  refine M.go rfl ?_
  refine M.op trivial (SOp.cvO rfl rfl (by decide)) ?_
  refine M.freezeO (i := 40) rfl rfl rfl ?_
  refine M.use trivial (append1_spec mB (fg (fP z1 A c1) (fP z2 B c2)) 2 (fgM (fP z2 B c2)) 2 _ [] (by decide) [104] false lat (some 5) may_h ok3 (by decide) (by rw [mB_eq, u3]; show ((B.length + 5 : Nat) : Int) ≤ _; omega) (.inr (by simp [fgM])) _ _ d3) [(0, 0), (1, 5), (2, 2), (3, 6)] rfl rfl rfl (by repeat' (first | exact True.intro | refine ⟨⟨_, _, _, rfl, rfl, rfl, WkO.rfl⟩, ?_⟩ | refine HeapOK.acc rfl rfl ?_ | refine HeapOK.es rfl rfl ?_)) rfl rfl ?_
  refine M.go rfl ?_
  obtain ⟨t, hc, ht⟩ := moves_cr z1 z2 A B c1 c2 n torn
  refine M.use trivial (crash1_spec mB (fg (fP z1 A c1) (fP z2 B c2)) 2 (fgH (fP z2 B c2) (fP false lat none) 2) 3 _ _ [⟨3, [103], [102], true, [], none, 0⟩, ⟨0, [104], [], false, lat, none, 0⟩] rfl (by decide) n torn t hc) [(0, 0), (1, 5), (2, 2), (3, 8)] rfl rfl rfl (by repeat' (first | exact True.intro | refine ⟨⟨_, _, _, rfl, rfl, rfl, WkO.rfl⟩, ?_⟩ | refine HeapOK.acc rfl rfl ?_ | refine HeapOK.es rfl rfl ?_)) rfl rfl ?_
  refine M.go rfl ?_
  refine M.use trivial (read0_spec mB t.1 t.2 t.1 t.2 [102] (if 1 ≤ n then z2 else z1) (if 1 ≤ n then B else A) (if 1 ≤ n then c2 else c1) (by rw [ht]; split <;> rfl) (by split <;> omega)) [(0, 9), (1, 10), (2, 11)] rfl rfl rfl (by repeat' (first | exact True.intro | refine ⟨⟨_, _, _, rfl, rfl, rfl, WkO.rfl⟩, ?_⟩ | refine HeapOK.acc rfl rfl ?_ | refine HeapOK.es rfl rfl ?_)) rfl rfl ?_
  refine M.go rfl ?_
  refine M.op trivial (SOp.cvBS rfl (bytesX_u8 hA)) ?_
  refine M.go rfl ?_
  have hr : Bytes (if 1 ≤ n then B else A) := by split <;> assumption
  refine M.cond rfl (fun h1 => ?_) (fun h1 => ?_)
  · rw [if_pos h1] at hr
    refine M.go rfl ?_
    refine M.op trivial (SOp.cvBS rfl (bytesX_u8 hB)) ?_
    refine M.go rfl ?_
    rw [if_pos h1, if_pos h1]
    refine M.op (by first | exact True.intro | exact rfl) (SOp.cvBS rfl (bytesX_u8 hB)) ?_
    refine M.go rfl ?_
    refine M.decC (s := 8) rfl (fun _ => ?_) (fun hn => absurd hn (by simp [eqL_dec]))
    exact M.ret (M.go rfl (M.done (finQ.ret [] rfl rfl rfl (by first | exact Wk.rfl | exact Wk.uncap | exact Wk.nil | exact Wk.b1 rfl | exact Wk.t2 Wk.rfl (Wk.b1 rfl)) (by repeat' (first | exact True.intro | refine ⟨⟨_, _, _, rfl, rfl, rfl, WkO.rfl⟩, ?_⟩ | refine HeapOK.acc rfl rfl ?_ | refine HeapOK.es rfl rfl ?_)))))
  · rw [if_neg h1] at hr
    refine M.go rfl ?_
    rw [if_neg h1, if_neg h1]
    refine M.op (by first | exact True.intro | exact rfl) (SOp.cvBS rfl (bytesX_u8 hA)) ?_
    refine M.go rfl ?_
    refine M.decC (s := 8) rfl (fun _ => ?_) (fun hn => absurd hn (by simp [eqL_dec]))
    exact M.ret (M.go rfl (M.done (finQ.ret [] rfl rfl rfl (by first | exact Wk.rfl | exact Wk.uncap | exact Wk.nil | exact Wk.b1 rfl | exact Wk.t2 Wk.rfl (Wk.b1 rfl)) (by repeat' (first | exact True.intro | refine ⟨⟨_, _, _, rfl, rfl, rfl, WkO.rfl⟩, ?_⟩ | refine HeapOK.acc rfl rfl ?_ | refine HeapOK.es rfl rfl ?_)))))
theorem byP_u8 (l : List Nat) : byP l = u8P (l.map fun (b : Nat) => (b : Int)) := by simp [u8P, byP]
theorem byB {l : List Nat} (h : ∀ b ∈ l, b < 256) : Bytes (l.map fun (b : Nat) => (b : Int)) := fun x hx => by
  rw [List.mem_map] at hx
  obtain ⟨b, hb, rfl⟩ := hx
  have := h b hb
  exact ⟨by omega, by omega⟩
theorem DiskMoves_law {p0 p1 p2 p3 : PC} (h0 : Is (.sl 1 1 (.int .u8)) p0) (h1 : Is (.sl 1 1 (.int .u8)) p1) (h2 : Is (.int .i64) p2) (h3 : Is (.int .i64) p3) : CallS Try.prog base 11 [xvP p0, xvP p1, xvP p2, xvP p3] ⟨[], 0⟩ (.c (.p (.bool true))) ⟨[], 0⟩ := by
  obtain ⟨za, a, rfl, -, ha⟩ := h0.bytes
  obtain ⟨zb, b, rfl, -, hb⟩ := h1.bytes
  obtain ⟨n, rfl, -⟩ := h2.i64
  obtain ⟨torn, rfl, -⟩ := h3.i64
  rw [byP_u8, byP_u8]
  exact DiskMoves_spec za zb _ _ none none (byB ha) (byB hb) n torn
end Go.Proofs.Ytjlfojgacnphmaa
