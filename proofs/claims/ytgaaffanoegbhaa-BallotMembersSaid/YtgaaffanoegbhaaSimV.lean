/- The plain machine beside the model's: operation by operation (seventh part: conversions, built-ins). No program in sight. -/
import Derived.Test.YtgaaffanoegbhaaSimU
namespace Go.Proofs.Ytgaaffanoegbhaa.Sim
open Go Go.RowKit
set_option linter.unusedSimpArgs false
set_option linter.unusedVariables false
variable {P : Program}

theorem make_fits {base : Nat} {φ : Ph} {h h' : SH} {w : World} (r : HR base φ h w) {ty : TypeId} {l c v : SV} {a b : Value} (hl : VR φ l a) (hc : VR φ c b) (hs : sMake P ty h l c = some (v, h')) : Fits base φ h w v h' ((Instr.makeSlice ty a b).run P w) := by
  unfold sMake at hs
  split at hs
  · rename_i e he
    have ht := elem_of he
    split at hs
    · rename_i i z k1 l k2 c hi hz
      obtain ⟨i', zv, hi', hzr, hz⟩ := zero_of hz
      rw [hi] at hi'
      cases hi'
      simp only [VR, VR1, CR] at hl hc
      subst hl hc
      split at hs
      · rename_i hcnd
        obtain ⟨c1, c2, c3, c4, c5, c6⟩ := hcnd
        simp only [Option.some.injEq, Prod.mk.injEq] at hs
        obtain ⟨rfl, rfl⟩ := hs
        obtain ⟨l, rfl⟩ := Int.eq_ofNat_of_zero_le c1
        obtain ⟨c, rfl⟩ := Int.eq_ofNat_of_zero_le (Int.le_trans c1 c2)
        have c3' : c * i.bytes ≤ 140737488355328 := by
          have := c3
          rw [← Int.natCast_mul] at this
          omega
        have hcb : c ≤ 140737488355328 := Nat.le_trans (Nat.le_mul_of_pos_right _ c4) c3'
        have hlc : l ≤ c := by omega
        have hzs : zv.cells.size = i.size := by
          have := (hz φ).length
          simp only [Array.length_toList] at this
          omega
        have hr := run_make (P := P) w ty e i zv ht hi hzr k1 k2 l c c1 c2 (by rw [Int.mul_comm]; omega) (by omega)
        simp only [Int.toNat_natCast] at hr ⊢
        have hC : All2 (CR φ) (rep z c) (madeCells zv.cells (c * i.size)).toList := rep_sound (hz φ) c (c * i.size) (by rw [c5]) (by omega)
        obtain ⟨φ', k1, k2, k3⟩ := push_fits r e (all2_get hC) (0, 0) (.inl rfl) w.drawn
        refine ⟨_, _, φ', hr, ⟨_, _, c, k3, rfl, fun _ => rfl, hlc, by simp only [maxLen]; omega, ?_, rfl⟩, k1, k2⟩
        simp [size_madeCells]
      · cases hs
    · cases hs
  · cases hs
theorem u8_back : ∀ {cs : List SC} {l : List Nat} {φ : Ph} {vs : List Value}, bytesOf' cs = some l → All2 (CR φ) cs vs → ∃ ns : List Int, vs = ns.map (Value.int .u8) ∧ ns.map (fun n => (UInt8.ofNat n.toNat).toNat) = l
  | [], l, φ, [], h, _ => by simp [bytesOf'] at h; subst h; exact ⟨[], rfl, rfl⟩
  | x :: cs, l, φ, v :: vs, h, hv => by
    unfold bytesOf' at h
    obtain ⟨h1, h2⟩ := hv
    split at h
    · rename_i b r hb hr
      simp only [Option.some.injEq] at h
      subst h
      obtain ⟨ns, q1, q2⟩ := u8_back hr h2
      unfold byteOf' at hb
      split at hb
      · rename_i n
        split at hb
        · rename_i hc
          simp only [Option.some.injEq] at hb
          subst hb
          simp only [CR] at h1
          refine ⟨n :: ns, by rw [h1, q1]; rfl, ?_⟩
          simp only [List.map_cons, q2]
          congr 1
          rw [UInt8.toNat_ofNat']
          omega
        · cases hb
      · cases hb
    · cases h
theorem HR.freeze {base : Nat} {φ : Ph} {h : SH} {w : World} (r : HR base φ h w) {b : Nat} {L : Loc} {q : List SC} (hb : h.get b = some (.row q true)) (hL : φ b = some L) {cs : Array Value} {E : TypeId} {fr : Nat × Nat} (hw : w.heap[L.m]? = some (.cells cs E fr)) :
    HR base φ h (w.freeze { block := L.m, off := cs.size } 1) ∧ Mv φ h w φ h (w.freeze { block := L.m, off := cs.size } 1) := by
  have hlt : L.m < w.heap.size := (Array.getElem?_eq_some_iff.1 hw).1
  have hv : w.heap[L.m] = .cells cs E fr := (Array.getElem?_eq_some_iff.1 hw).2
  obtain ⟨L', ws, E', fr', j1, j2, j3, j4, j5⟩ := r.row hb
  rw [hL] at j1
  cases j1
  rw [hw] at j2
  cases j2
  obtain ⟨k1, k2, k3, k4⟩ := j5 rfl
  have hat : (w.freeze { block := L.m, off := cs.size } 1).heap[L.m]? = some (.cells cs E (if fr.1 == fr.2 then (cs.size, cs.size + 1) else (min fr.1 cs.size, max fr.2 (cs.size + 1)))) := by
    unfold World.freeze
    rw [if_neg (by omega)]
    simp only
    rw [Array.getElem?_eq_getElem (by simpa using hlt), Array.getElem_modify]
    simp [hv]
  have hold : ∀ k, k ≠ L.m → (w.freeze { block := L.m, off := cs.size } 1).heap[k]? = w.heap[k]? := by
    intro k hk
    unfold World.freeze
    rw [if_neg (by omega)]
    simp only
    by_cases h1 : k < w.heap.size
    · rw [Array.getElem?_eq_getElem (by simpa using h1), Array.getElem_modify, if_neg (fun e => hk e.symm), Array.getElem?_eq_getElem h1]
    · rw [Array.getElem?_eq_none (by simpa using h1), Array.getElem?_eq_none (by simpa using h1)]
  have hsz : (w.freeze { block := L.m, off := cs.size } 1).heap.size = w.heap.size := by
    unfold World.freeze
    rw [if_neg (by omega)]
    simp
  have hos : (w.freeze { block := L.m, off := cs.size } 1).os = w.os ∧ (w.freeze { block := L.m, off := cs.size } 1).tape = w.tape ∧ (w.freeze { block := L.m, off := cs.size } 1).output = w.output := by
    unfold World.freeze
    rw [if_neg (by omega)]
    exact ⟨rfl, rfl, rfl⟩
  have hlive : Live base φ (w.freeze { block := L.m, off := cs.size } 1) L (.row q true) := by
    refine ⟨j3, cs, E, _, hat, j4, fun _ => ⟨k1, k2, k3, ?_⟩⟩
    by_cases hf : fr.1 = fr.2
    · simp [hf]
    · rcases k4 with k4 | k4
      · exact absurd k4 hf
      · right
        rw [if_neg (by simpa using hf)]
        simp only
        omega
  obtain ⟨g1, g2⟩ := r.change ⟨_, hb, rfl, hL⟩ (.row q true) hsz hold hlive hos.1 hos.2.1 hos.2.2
  have hgo : ∀ j, (h.put b (some (.row q true))).get j = h.get j := fun j => by
    rw [SH.get_put]
    split
    · rename_i e; rw [e, hb]
    · rfl
  have how : ∀ c M, Owns φ h c M ↔ Owns φ (h.put b (some (.row q true))) c M := fun c M => by simp only [Owns, hgo]
  refine ⟨⟨g1.dom, g1.lo, fun c o hc => g1.live c o (by rw [hgo]; exact hc), fun m o hm => ⟨(g1.froz m o hm).1, fun c M hc => (g1.froz m o hm).2 c M ((how _ _).1 hc)⟩, fun c c' o M M' h1 h2 h3 h4 => g1.inj c c' o M M' ((how _ _).1 h1) (by rw [hgo]; exact h2) h3 h4⟩,
    ⟨g2.le, g2.os, g2.tape, g2.output, g2.size, g2.keep, fun c M hc => g2.own c M ((how _ _).1 hc), fun c q M hc hM => g2.has c q M (by rw [hgo]; exact hc) hM, g2.fm, g2.nx, g2.nw⟩⟩
theorem convert_fits {base : Nat} {φ : Ph} {h h' : SH} {w : World} (r : HR base φ h w) {src dst : TypeId} {x v : SV} {a : Value} (hx : VR φ x a) (hs : sConvert P src dst h x = some (v, h')) : Fits base φ h w v h' ((convert src dst a).run P w) := by
  unfold sConvert at hs
  split at hs
  · rename_i k0 k k1 n h1 h2
    simp only [VR, VR1, CR] at hx
    subst hx
    simp only [Option.some.injEq, Prod.mk.injEq] at hs
    obtain ⟨rfl, rfl⟩ := hs
    exact Fits.pure r (v' := .int k (k.wrap n)) (by simp [convert, run_underlying h1, run_underlying h2, Conv.intToInt]) rfl
  · rename_i l h1 h2
    obtain ⟨s, rfl, hl⟩ := hx
    simp only [Option.some.injEq, Prod.mk.injEq] at hs
    obtain ⟨rfl, rfl⟩ := hs
    exact Fits.pure r (v' := .string s) (by simp [convert, run_underlying h1, run_underlying h2]) ⟨s, rfl, hl⟩
  · rename_i e l h1 h2
    obtain ⟨s, rfl, hl⟩ := hx
    subst hl
    split at hs
    · rename_i he
      split at hs
      · rename_i hle
        simp only [Option.some.injEq, Prod.mk.injEq] at hs
        obtain ⟨rfl, rfl⟩ := hs
        have hr := run_bytes_of_string (P := P) w src dst e s h1 h2 he
        have hsz : s.size = s.data.toList.length := rfl
        have hge := grownCap_ge w s.size 0 e
        simp only [List.length_map] at hle
        have hm := grownCap_le_maxLen w s.size 0 e (by simp only [maxLen]; omega)
        have hbs : (bytesRow s (grownCap w s.size 0 e)).size = grownCap w s.size 0 e := by
          simp only [bytesRow, Array.size_append, Array.size_map, Array.size_replicate]
          have : s.data.size = s.size := rfl
          omega
        obtain ⟨φ', k1, k2, k3⟩ := push_fits r e (q := (s.data.toList.map UInt8.toNat).map fun (b : Nat) => SC.int .u8 (b : Int)) (cs := bytesRow s (grownCap w s.size 0 e)) (fun i x hx => by
          rw [List.getElem?_map, List.getElem?_map] at hx
          cases hq : s.data.toList[i]? with
          | none => simp [hq] at hx
          | some c =>
            simp only [hq, Option.map_some, Option.some.injEq] at hx
            subst hx
            have hi := (List.getElem?_eq_some_iff.1 hq).1
            have h9 := bytesRow_at s (grownCap w s.size 0 e) i (by simpa using hi)
            refine ⟨_, h9, ?_⟩
            have := (List.getElem?_eq_some_iff.1 hq).2
            simp only [Array.getElem_toList] at this
            rw [this]; rfl) ((bytesRow s (grownCap w s.size 0 e)).size, (bytesRow s (grownCap w s.size 0 e)).size + 1) (.inr (Nat.le_refl _)) (w.drawn + 1)
        refine ⟨_, _, φ', hr, ⟨_, _, grownCap w s.size 0 e, k3, ?_, fun _ => rfl, ?_, hm, ?_, ?_⟩, k1, k2⟩
        · rw [show (List.map UInt8.toNat s.data.toList).length = s.size by rw [List.length_map]; rfl]
        · simp only [List.length_map]; omega
        · simp only [hbs]; omega
        · simp only [List.length_map]; omega
      · cases hs
    · cases hs
  · rename_i e0 e b o n s c h1 h2
    obtain ⟨L, ad, cap, hL, rfl, hat, hn, hcm, hsz, hcc⟩ := hx
    split at hs
    · rename_i q he hb
      split at hs
      · rename_i hcnd
        obtain ⟨rfl, hp⟩ := hcnd
        rw [h1] at h2
        cases h2
        simp only [Option.some.injEq, Prod.mk.injEq] at hs
        obtain ⟨rfl, rfl⟩ := hs
        obtain ⟨L', ws, E, fr, j1, j2, j3, j4, j5⟩ := r.row hb
        rw [hL] at j1
        cases j1
        have := hat (by omega)
        subst this
        obtain ⟨g1, g2⟩ := r.freeze hb hL j2
        refine ⟨.slice (some ⟨L.m, L.m0 + o, none⟩) n cap, _, φ, ?_, ⟨L, _, cap, hL, rfl, fun _ => rfl, hn, hcm, hsz, hcc⟩, g1, g2⟩
        have hshape : w.shape? L.m = some (E, ws.size) := by simp [World.shape?, j2]
        simp [convert, run_underlying h1, run_underlying he, markStringish, hshape]
      · cases hs
    · cases hs
  · rename_i x0 e h1 h2
    split at hs
    · rename_i he
      split at hs
      · simp only [VR, VR1, CR] at hx
        subst hx
        simp only [Option.some.injEq, Prod.mk.injEq] at hs
        obtain ⟨rfl, rfl⟩ := hs
        exact Fits.pure r (v' := .string .empty) (run_convert_bytes_nil w src e h1 he 0 0 dst h2) ⟨.empty, rfl, rfl⟩
      · obtain ⟨ad, c, rfl, hc⟩ := hx
        simp only [Option.some.injEq, Prod.mk.injEq] at hs
        obtain ⟨rfl, rfl⟩ := hs
        refine Fits.pure r (v' := .string .empty) ?_ ⟨.empty, rfl, rfl⟩
        rw [run_convert_bytes_string w src dst e _ 0 c h1 he h2, run_bytesToString w ad 0 c [] (by simp [loadCells, loadCellsFrom])]
        rfl
      · rename_i b o n s c
        obtain ⟨L, ad, cap, hL, rfl, hat, hn, hcm, hsz, hcc⟩ := hx
        split at hs
        · cases hs
        · rename_i hs1
          simp only [ne_eq, Decidable.not_not] at hs1
          subst hs1
          split at hs
          · rename_i cs hr
            split at hs
            · rename_i l hl
              simp only [Option.some.injEq, Prod.mk.injEq] at hs
              obtain ⟨rfl, rfl⟩ := hs
              obtain ⟨vs, q1, q2, q3⟩ := read_all2 r hr hL
              obtain ⟨ns, g1, g2⟩ := u8_back hl q2
              have hload : (loadCells ad n).run P w = .ok (ns.map (Value.int .u8)).toArray w := by
                by_cases h0 : n = 0
                · subst h0
                  have : vs = [] := List.eq_nil_of_length_eq_zero q1
                  subst this
                  rw [← g1]
                  simp [loadCells, loadCellsFrom]
                · have := hat (by omega)
                  subst this
                  have := run_loadCells_list (P := P) w _ vs q3
                  rw [q1] at this
                  rw [← g1]
                  exact this
              refine Fits.pure r (v' := .string _) (by rw [run_convert_bytes_string w src dst e _ n cap h1 he h2, run_bytesToString w ad n cap ns hload]) ⟨_, rfl, ?_⟩
              rw [foldl_push_bytes]
              simp [ByteArray.empty, ByteArray.emptyWithCapacity, List.map_map]
              rw [← g2]
              rfl
            · cases hs
          · cases hs
      · rename_i n s q c
        simp only [VR, VR1, CR] at hx
        obtain ⟨hq, ad, cap, rfl, hn, hcm, hcc, hcs⟩ := hx
        split at hs
        · cases hs
        · rename_i hs1
          simp only [ne_eq, Decidable.not_not] at hs1
          subst hs1
          split at hs
          · rename_i l hl
            simp only [Option.some.injEq, Prod.mk.injEq] at hs
            obtain ⟨rfl, rfl⟩ := hs
            obtain ⟨vs, q1, q2, q3⟩ := hcs.all2
            obtain ⟨ns, g1, g2⟩ := u8_back hl q2
            have hload : (loadCells ad n).run P w = .ok (ns.map (Value.int .u8)).toArray w := by
              have := run_loadCells_list (P := P) w ad vs (fun j v hj => r.cell (by have := q3 j v hj; rwa [Nat.zero_add] at this))
              rw [show vs.length = n by omega] at this
              rw [← g1]
              exact this
            refine Fits.pure r (v' := .string _) (by rw [run_convert_bytes_string w src dst e _ n cap h1 he h2, run_bytesToString w ad n cap ns hload]) ⟨_, rfl, ?_⟩
            rw [foldl_push_bytes]
            simp [ByteArray.empty, ByteArray.emptyWithCapacity, List.map_map]
            rw [← g2]
            rfl
          · cases hs
      · cases hs
    · cases hs
  · cases hs
theorem len_sound {base : Nat} {φ : Ph} {h : SH} {w : World} (r : HR base φ h w) {x : SV} {a : Value} {n : Nat} {t : TypeId} {d : TypeDesc} (hd : P.underlying t = some d) (hx : VR φ x a) (hs : sLen d h x = some n) (ts : Array TypeId) (ht : ts[0]? = some t) (ty : TypeId) :
    (Builtin.len_ ts ty #[a]).run P w = .ok (.int .i64 n) w := by
  unfold sLen at hs
  split at hs
  · simp only [Option.some.injEq] at hs
    subst hs
    simp only [VR, VR1, CR] at hx
    subst hx
    simp [Builtin.len_, ht, run_underlying hd, goInt]
  · simp only [Option.some.injEq] at hs
    subst hs
    obtain ⟨ad, c, rfl, _⟩ := hx
    simp [Builtin.len_, ht, run_underlying hd, goInt]
  · simp only [Option.some.injEq] at hs
    subst hs
    obtain ⟨L, ad, cap, _, rfl, _⟩ := hx
    simp [Builtin.len_, ht, run_underlying hd, goInt]
  · simp only [Option.some.injEq] at hs
    subst hs
    simp only [VR, VR1, CR] at hx
    obtain ⟨_, ad, cap, rfl, _⟩ := hx
    simp [Builtin.len_, ht, run_underlying hd, goInt]
  · simp only [Option.some.injEq] at hs
    subst hs
    obtain ⟨s, rfl, hl⟩ := hx
    subst hl
    simp only [List.length_map]
    simp [Builtin.len_, ht, run_underlying hd, goInt]
  · simp only [Option.some.injEq] at hs
    subst hs
    simp only [VR, VR1, CR] at hx
    subst hx
    simp [Builtin.len_, ht, run_underlying hd, goInt]
  · rename_i b
    obtain ⟨L, hL, rfl⟩ := hx
    split at hs
    · rename_i es clock hb
      simp only [Option.some.injEq] at hs
      subst hs
      obtain ⟨L', h1, h2, vs, h3, h4⟩ := r.live b _ hb
      rw [hL] at h1
      cases h1
      have := h4.length
      simp only [Array.length_toList] at this
      rw [this]
      have hg : (getObj L.m).run P w = .ok (.map vs clock) w := by simp [getObj, Sem.run, h3]
      simp [Builtin.len_, ht, run_underlying hd, goInt, hg]
    · cases hs
  · cases hs
theorem clear_fits {base : Nat} {φ : Ph} {h h' : SH} {w : World} (r : HR base φ h w) {t e : TypeId} {b o n s : Nat} {c : Option Nat} {z : List SC} {a : Value} (he : elemOf' P t = some e) (hz : zeroOf P e = some z) (hzl : z.length = s) (hs0 : 0 < s) (hx : CR φ (.sl b o n s c) a) (hw : h.write b o (rep z n) = some h') (hn : 0 < n) (ts : Array TypeId) (ht : ts[0]? = some t) (ty : TypeId) :
    ∃ w', (Builtin.clear_ ts ty #[a]).run P w = .ok (.tuple #[]) w' ∧ HR base φ h' w' ∧ Mv φ h w φ h' w' := by
  obtain ⟨L, ad, cap, hL, rfl, hat, hnc, -⟩ := hx
  have := hat (by omega)
  subst this
  obtain ⟨i, zv, hi, hzr, hz⟩ := zero_of hz
  have hsz : zv.cells.size = z.length := by
    have := (hz φ).length
    simp only [Array.length_toList] at this
    omega
  have hv : All2 (CR φ) (rep z n) (Builtin.zeroCells zv.cells n).toList := by
    unfold Builtin.zeroCells
    exact rep_sound (hz φ) n (n * zv.cells.size) (by rw [hsz]) (by omega)
  obtain ⟨w', g1, g2, g3⟩ := write_fits (P := P) r hw hL hv
  refine ⟨w', ?_, g2, g3⟩
  have hn0 : n ≠ 0 := by omega
  obtain ⟨n, rfl⟩ : ∃ k, n = k + 1 := ⟨n - 1, by omega⟩
  simp [Builtin.clear_, ht, run_underlying (elem_of he), run_zero hi hzr, g1]
end Go.Proofs.Ytgaaffanoegbhaa.Sim
