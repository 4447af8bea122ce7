/- The plain machine beside the model's: operation by operation (sixth part: appends, conversions, built-ins). No program in sight. -/
import Derived.Test.YtgaaffanoegbhaaSimS
namespace Go.Proofs.Ytgaaffanoegbhaa.Sim
open Go Go.RowKit
set_option linter.unusedSimpArgs false
set_option linter.unusedVariables false
variable {P : Program}

/-- Frozen cells. -/
theorem HR.cell {base : Nat} {φ : Ph} {h : SH} {w : World} (r : HR base φ h w) {a : Addr} {u : Value} (hu : φ.cell a = some u) : w.cell? a = some u := by
  unfold Ph.cell at hu
  cases hm : φ.fm a.block with
  | none => simp [hm] at hu
  | some o =>
    rw [hm] at hu
    simp only [World.cell?, (r.froz _ _ hm).1]
    cases o <;> simp_all
theorem CRs.all2 {φ : Ph} {a : Addr} : ∀ {l : List SC} {i : Nat}, CRs φ a i l → ∃ vs : List Value, vs.length = l.length ∧ All2 (CR φ) l vs ∧ ∀ j v, vs[j]? = some v → φ.cell (a.add (i + j)) = some v
  | [], i, _ => ⟨[], rfl, trivial, fun j v h => by simp at h⟩
  | x :: l, i, h => by
    simp only [CRs] at h
    obtain ⟨⟨u, h1, h2⟩, h3⟩ := h
    obtain ⟨vs, g1, g2, g3⟩ := CRs.all2 h3
    refine ⟨u :: vs, by simp [g1], ⟨h2, g2⟩, fun j v hv => ?_⟩
    cases j with
    | zero => simp at hv; subst hv; exact h1
    | succ j =>
      have := g3 j v (by simpa using hv)
      rwa [show i + 1 + j = i + (j + 1) by omega] at this
theorem loadL_sound {base : Nat} {φ : Ph} {h : SH} {w : World} (r : HR base φ h w) {t : TypeId} {l : List SC} {o : Nat} {v : SV} {a : Value} (ha : CR φ (.fp l o) a) (hl : sLoadL P t l o = some v) :
    Fits base φ h w v h ((Instr.loadAt t a).run P w) := by
  simp only [CR] at ha
  obtain ⟨ad, rfl, hc⟩ := ha
  obtain ⟨vs, g1, g2, g3⟩ := hc.all2
  have g4 : ∀ j v, vs[j]? = some v → w.cell? (ad.add j) = some v := fun j v hv => r.cell (by have := g3 j v hv; rwa [Nat.zero_add] at this)
  unfold sLoadL at hl
  split at hl
  · rename_i n hag hn
    split at hl
    · rename_i hle
      simp only [Option.some.injEq] at hl
      subst hl
      have hlen : ((vs.drop o).take n).length = n := by rw [List.length_take, List.length_drop]; omega
      have hq := run_loadCells_list (P := P) w (ad.add o) ((vs.drop o).take n) (fun j v hv => by
        rw [Addr.add_plus]
        rw [List.getElem?_take] at hv
        split at hv
        · rw [List.getElem?_drop] at hv; exact g4 _ _ hv
        · cases hv)
      rw [hlen] at hq
      exact Fits.pure r (v' := .agg ((vs.drop o).take n).toArray) (by simp [Instr.loadAt, Instr.sureAddr, loadVar, run_isAg hag, run_sizeOf hn, hq]) ⟨_, rfl, (g2.drop o).take n⟩
    · cases hl
  · rename_i n hag hn
    split at hl
    · rename_i x hx
      simp only [Option.some.injEq] at hl
      subst hl
      obtain ⟨u, h1, h2⟩ := g2.get hx
      exact Fits.pure r (v' := u) (by simp [Instr.loadAt, Instr.sureAddr, loadVar, run_isAg hag, g4 _ _ h1]) h2
    · cases hl
  · cases hl
/-- What is appended. -/
theorem elems_sound {base : Nat} {φ : Ph} {h : SH} {w : World} (r : HR base φ h w) {s k : Nat} {y : SV} {v : Value} {new : List SC} (hv : VR φ y v) (he : elems h s y = some (k, new)) :
    ∃ vs : List Value, vs.length = k * s ∧ All2 (CR φ) new vs ∧ (Builtin.lenOf v).run P w = .ok k w ∧ (Builtin.firstCells s k v).run P w = .ok vs.toArray w := by
  unfold elems at he
  split at he
  · simp only [Option.some.injEq, Prod.mk.injEq] at he
    obtain ⟨rfl, rfl⟩ := he
    simp only [VR, VR1, CR] at hv
    subst hv
    exact ⟨[], by simp, trivial, rfl, by simp [Builtin.firstCells]⟩
  · simp only [Option.some.injEq, Prod.mk.injEq] at he
    obtain ⟨rfl, rfl⟩ := he
    obtain ⟨a, c, rfl, hc⟩ := hv
    exact ⟨[], by simp, trivial, rfl, by simp [Builtin.firstCells, loadCells, loadCellsFrom]⟩
  · rename_i b o n s' c
    split at he
    · rename_i hs
      subst hs
      cases hr : h.read b o (n * s) with
      | none => simp [hr] at he
      | some l =>
        simp only [hr, Option.map_some, Option.some.injEq, Prod.mk.injEq] at he
        obtain ⟨rfl, rfl⟩ := he
        obtain ⟨L, a, cap, hL, rfl, hat, hn, hcm, -⟩ := hv
        obtain ⟨vs, h1, h2, h3⟩ := read_all2 r hr hL
        refine ⟨vs, h1, h2, rfl, ?_⟩
        by_cases h0 : n * s = 0
        · have : vs = [] := List.eq_nil_of_length_eq_zero (by omega)
          subst this
          simp [Builtin.firstCells, h0, loadCells, loadCellsFrom]
        · have hp : 0 < n := Nat.pos_of_ne_zero fun e => h0 (by simp [e])
          have := hat (by omega)
          subst this
          exact run_firstCells_some (P := P) w s n _ n cap vs h1 h3
    · cases he
  · rename_i n s' l c
    split at he
    · rename_i hs
      subst hs
      simp only [Option.some.injEq, Prod.mk.injEq] at he
      obtain ⟨rfl, rfl⟩ := he
      simp only [VR, VR1, CR] at hv
      obtain ⟨hl, a, cap, rfl, hn, hcm, -, hcs⟩ := hv
      obtain ⟨vs, g1, g2, g3⟩ := hcs.all2
      exact ⟨vs, by omega, g2, rfl, run_firstCells_some (P := P) w s n a n cap vs (by omega) (fun j v hj => r.cell (by have := g3 j v hj; rwa [Nat.zero_add] at this))⟩
    · cases he
  · rename_i l
    split at he
    · rename_i hs
      subst hs
      simp only [Option.some.injEq, Prod.mk.injEq] at he
      obtain ⟨rfl, rfl⟩ := he
      obtain ⟨sb, rfl, hl⟩ := hv
      subst hl
      have hsz : sb.size = sb.data.toList.length := rfl
      refine ⟨sb.data.toList.map fun b => Value.int .u8 b.toNat, by simp, ?_, by simp [Builtin.lenOf], ?_⟩
      · rw [List.map_map]
        have : ∀ l : List UInt8, All2 (CR φ) (l.map ((fun (b : Nat) => SC.int .u8 (b : Int)) ∘ UInt8.toNat)) (l.map fun b => Value.int .u8 (b.toNat : Int)) := by
          intro l
          induction l with
          | nil => trivial
          | cons b l ih => exact ⟨rfl, ih⟩
        exact this _
      · have hx : (sb.extract 0 (List.map UInt8.toNat sb.data.toList).length).data = sb.data := by
          rw [List.length_map, ← hsz, ByteArray.data_extract]
          have : sb.size = sb.data.size := rfl
          rw [this, Array.extract_size]
        simp only [Builtin.firstCells, hx, Sem.run_pure]
        congr 1
        apply Array.ext'
        simp
    · cases he
  · cases he
/-- append in the model, where there is room. -/
theorem append_room {t u e : TypeId} {i : TypeInfo} {du : TypeDesc} (ht : P.underlying t = some (.slice e)) (hi : P.info? e = some i) (hu : P.underlying u = some du) (hd : ∀ k, du ≠ .int k) (ty : TypeId) (w : World) {b : Option Addr} {n c k : Nat} {v : Value} {vs : List Value}
    (h1 : (Builtin.lenOf v).run P w = .ok k w) (h2 : (Builtin.firstCells i.size k v).run P w = .ok vs.toArray w) (hroom : n + k ≤ c) :
    (Builtin.append_ #[t, u] ty #[.slice b n c, v]).run P w = ((match b with | some a => storeCells (a.add (n * i.size)) vs | none => pure ()) >>= fun _ => pure (.slice b (n + k) c) : Sem Value).run P w := by
  have hz : (match du with | .int _ => true | _ => false) = false := by
    cases du <;> first | rfl | exact absurd rfl (hd _)
  simp [Builtin.append_, run_underlying ht, run_underlying hu, sizeOf, typeInfo, hi, hz, h1, h2, hroom]
  cases b <;> simp
theorem append_grow {t u e : TypeId} {i : TypeInfo} {z : Value} {du : TypeDesc} (ht : P.underlying t = some (.slice e)) (hi : P.info? e = some i) (hzr : i.zero = some z) (hu : P.underlying u = some du) (hd : ∀ k, du ≠ .int k) (ty : TypeId) (w : World) {b : Option Addr} {n c k : Nat} {v : Value} {vs os : List Value}
    (h1 : (Builtin.lenOf v).run P w = .ok k w) (h2 : (Builtin.firstCells i.size k v).run P w.drew = .ok vs.toArray w.drew) (h3 : (Builtin.firstCells i.size n (.slice b n c)).run P w.drew = .ok os.toArray w.drew)
    (hg : c < n + k) (h63 : (((n + k : Nat) : Int)) ≤ 9223372036854775807) (hfit : Builtin.nextslicecap (n + k) c * i.bytes ≤ 281474976710656) :
    (Builtin.append_ #[t, u] ty #[.slice b n c, v]).run P w = .ok (.slice (some ⟨w.heap.size, 0, none⟩) (n + k) (grownCap w (n + k) c e))
      { w with heap := w.heap.push (.cells (os.toArray ++ vs.toArray ++ Builtin.zeroCells z.cells (grownCap w (n + k) c e - (n + k))) e (0, 0)), drawn := w.drawn + 1 } := by
  have hz : (match du with | .int _ => true | _ => false) = false := by
    cases du <;> first | rfl | exact absurd rfl (hd _)
  have hn : ¬ (n + k ≤ c) := by omega
  have h63' : ¬ (9223372036854775807 < ((n : Int) + (k : Int))) := by omega
  have h48' : ¬ (281474976710656 < Builtin.nextslicecap (n + k) c * i.bytes) := by omega
  simp [Builtin.append_, run_underlying ht, run_underlying hu, sizeOf, typeInfo, zeroValue, hi, hzr, hz, h1, hn, h63', h48', Question.forced, newRow, grownCap]
  rw [h3]
  simp only [Result.andThen_ok, h2]
  have hA : ∀ zc : Array Value, os.toArray ++ (vs.toArray ++ zc) = (os ++ vs).toArray ++ zc := fun zc => by apply Array.ext'; simp
  rw [hA]
  rfl
theorem mul_le_of {n c s : Nat} (h : n ≤ c) : n * s ≤ c * s := Nat.mul_le_mul_right _ h
/-- A grown row goes with the plain one. -/
theorem grow_rel {base : Nat} {φ : Ph} {h : SH} {w : World} (r : HR base φ h w) (e : TypeId) {s n c : Nat} {q : List SC} {os : List Value} {z : Array Value} (hq : All2 (CR φ) q os) (ho : os.length = n * s) (hs : 0 < s) (hz : z.size = s) (hc : n ≤ c) (hm : c ≤ maxLen) (d : Nat) (C : Array Value)
    (hC : C = os.toArray ++ Builtin.zeroCells z (c - n)) :
    ∃ φ', VR φ' (.c (.sl h.next 0 n s none)) (.slice (some ⟨w.heap.size, 0, none⟩) n c) ∧ HR base φ' (h.new q) { w with heap := w.heap.push (.cells C e (0, 0)), drawn := d } ∧ Mv φ h w φ' (h.new q) { w with heap := w.heap.push (.cells C e (0, 0)), drawn := d } := by
  subst hC
  have hl := hq.length
  have hsz : (os.toArray ++ Builtin.zeroCells z (c - n)).size = c * s := by
    rw [Array.size_append, List.size_toArray, size_zeroCells, ho, hz, ← Nat.add_mul]
    congr 1; omega
  obtain ⟨φ', h1, h2, h3⟩ := push_fits r e (q := q) (cs := os.toArray ++ Builtin.zeroCells z (c - n)) (fun i x hx => by
    obtain ⟨v, a, b⟩ := hq.get hx
    have hi : i < os.length := (List.getElem?_eq_some_iff.1 a).1
    refine ⟨v, ?_, b⟩
    rw [Array.getElem?_append_left (by simpa using hi)]
    simpa using a) (0, 0) (.inl rfl) d
  have := mul_le_of (s := s) hc
  refine ⟨φ', ⟨_, _, c, h3, rfl, fun _ => rfl, hc, hm, by simp only [hsz]; omega, by simp only; omega⟩, h1, h2⟩
theorem append_fits {base : Nat} {φ : Ph} {h h' : SH} {w : World} (r : HR base φ h w) {t u : TypeId} {du : TypeDesc} {x y v : SV} {a b : Value} (hu : P.underlying u = some du) (hd : ∀ k, du ≠ .int k) (hx : VR φ x a) (hy : VR φ y b)
    (hs : sAppend P t h x y = some (v, h')) (ty : TypeId) : Fits base φ h w v h' ((Builtin.append_ #[t, u] ty #[a, b]).run P w) := by
  unfold sAppend at hs
  split at hs
  · rename_i e he
    have ht := elem_of he
    split at hs
    · rename_i i z hi hz
      obtain ⟨i', zv, hi', hzr, hz⟩ := zero_of hz
      rw [hi] at hi'
      cases hi'
      split at hs
      · cases hs
      · rename_i hzl
        simp only [ne_eq, Decidable.not_not] at hzl
        have hzs : zv.cells.size = i.size := by have := (hz φ).length; simp at this; omega
        split at hs
        · rename_i k new he
          obtain ⟨vs, k1, k2, k3, k4⟩ := elems_sound (P := P) r hy he
          obtain ⟨vs', k1', k2', k3', k4'⟩ := elems_sound (P := P) (r.same (w' := w.drew) rfl) hy he
          split at hs
          · -- nil
            simp only [VR, VR1, CR] at hx
            subst hx
            split at hs
            · rename_i h0
              subst h0
              simp only [Option.some.injEq, Prod.mk.injEq] at hs
              obtain ⟨rfl, rfl⟩ := hs
              exact Fits.pure r (v' := .slice none 0 0) (by rw [append_room ht hi hu hd ty w k3 k4 (Nat.le_refl _)]; simp) rfl
            · rename_i h0
              split at hs
              · rename_i hc
                obtain ⟨c1, c2, c3⟩ := hc
                simp only [Option.some.injEq, Prod.mk.injEq] at hs
                obtain ⟨rfl, rfl⟩ := hs
                have hk : k ≤ 140737488355328 := Nat.le_trans (Nat.le_mul_of_pos_right _ c2) c1
                have hr := append_grow (P := P) (os := []) (b := none) (n := 0) (c := 0) ht hi hzr hu hd ty w k3 k4' (by simp [Builtin.firstCells]) (by omega) (by omega) (growslice_fits (by omega) (by simpa using c1))
                simp only [Nat.zero_add] at hr
                obtain ⟨φ', g1, g2, g3⟩ := grow_rel r e (c := grownCap w k 0 e) k2' k1' c3 hzs (grownCap_ge _ _ _ _) (grownCap_le_maxLen _ _ _ _ (by simp only [maxLen]; omega)) (w.drawn + 1) _ rfl
                refine ⟨_, _, φ', hr, g1, ?_, ?_⟩
                · simpa using g2
                · simpa using g3
              · cases hs
          · -- em
            obtain ⟨ad, c, rfl, hc⟩ := hx
            split at hs
            · rename_i h0
              subst h0
              simp only [Option.some.injEq, Prod.mk.injEq] at hs
              obtain ⟨rfl, rfl⟩ := hs
              have hv0 : vs = [] := List.eq_nil_of_length_eq_zero (by simpa using k1)
              subst hv0
              exact Fits.pure r (v' := .slice (some ad) 0 c) (by rw [append_room ht hi hu hd ty w k3 k4 (Nat.zero_le _)]; simp [storeCells]) ⟨ad, c, rfl, hc⟩
            · cases hs
          · -- a frozen one, of known capacity
            rename_i n s l c
            have hx0 := hx
            simp only [VR, VR1, CR] at hx
            obtain ⟨hl, ad, cap, rfl, hn, hcm, hcc, hcs⟩ := hx
            split at hs
            · rename_i h0
              subst h0
              simp only [Option.some.injEq, Prod.mk.injEq] at hs
              obtain ⟨rfl, rfl⟩ := hs
              have hv0 : vs = [] := List.eq_nil_of_length_eq_zero (by simpa using k1)
              subst hv0
              exact Fits.pure r (v' := .slice (some ad) n cap) (by rw [append_room ht hi hu hd ty w k3 k4 (by omega)]; simp [storeCells]) hx0
            · rename_i h0
              split at hs
              · rename_i hc
                obtain ⟨c1, c2, c3, c4, c5⟩ := hc
                subst c4
                have c6 : c = cap := hcc _ rfl
                subst c6
                simp only [Option.some.injEq, Prod.mk.injEq] at hs
                obtain ⟨rfl, rfl⟩ := hs
                have hk : n + k ≤ 140737488355328 := Nat.le_trans (Nat.le_mul_of_pos_right _ c2) c1
                obtain ⟨os, o1, o2, o3⟩ := hcs.all2
                have o4 : (Builtin.firstCells i.size n (.slice (some ad) n c)).run P w.drew = .ok os.toArray w.drew := run_firstCells_some (P := P) w.drew i.size n ad n c os (by omega) (fun j v hj => by
                  rw [World.cell?_of_block (w := w) (by rfl)]
                  exact r.cell (by have := o3 j v hj; rwa [Nat.zero_add] at this))
                have hr := append_grow (P := P) (os := os) (b := some ad) (n := n) (c := c) ht hi hzr hu hd ty w k3 k4' o4 (by omega) (by omega) (growslice_fits (by omega) c1)
                obtain ⟨φ', g1, g2, g3⟩ := grow_rel r e (n := n + k) (c := grownCap w (n + k) c e) (o2.app k2') (by rw [List.length_append, o1, k1', hl, Nat.add_mul]) c3 hzs (grownCap_ge _ _ _ _) (grownCap_le_maxLen _ _ _ _ (by simp only [maxLen]; omega)) (w.drawn + 1) _ rfl
                refine ⟨_, _, φ', hr, g1, ?_, ?_⟩
                · simpa using g2
                · simpa using g3
              · cases hs
          · -- a frozen one
            rename_i n s l
            have hx0 := hx
            simp only [VR, VR1, CR] at hx
            obtain ⟨hl, ad, cap, rfl, hn, hcm, hcc, hcs⟩ := hx
            split at hs
            · rename_i h0
              subst h0
              simp only [Option.some.injEq, Prod.mk.injEq] at hs
              obtain ⟨rfl, rfl⟩ := hs
              have hv0 : vs = [] := List.eq_nil_of_length_eq_zero (by simpa using k1)
              subst hv0
              exact Fits.pure r (v' := .slice (some ad) n cap) (by rw [append_room ht hi hu hd ty w k3 k4 (by omega)]; simp [storeCells]) hx0
            · cases hs
          · rename_i bb o n s c
            obtain ⟨L, ad, cap, hL, rfl, hat, hn, hcm, hsz, hcc⟩ := hx
            split at hs
            · rename_i h0
              subst h0
              simp only [Option.some.injEq, Prod.mk.injEq] at hs
              obtain ⟨rfl, rfl⟩ := hs
              have hv0 : vs = [] := List.eq_nil_of_length_eq_zero (by simpa using k1)
              subst hv0
              exact Fits.pure r (v' := .slice (some ad) n cap) (by rw [append_room ht hi hu hd ty w k3 k4 (by omega)]; simp [storeCells]) ⟨L, ad, cap, hL, rfl, hat, hn, hcm, hsz, hcc⟩
            · rename_i h0
              split at hs
              · rename_i hc
                obtain ⟨c1, c2, c3, rfl⟩ := hc
                have hk : n + k ≤ 140737488355328 := Nat.le_trans (Nat.le_mul_of_pos_right _ c2) c1
                split at hs
                · rename_i cs own hb
                  obtain ⟨L', ws, E, fr, j1, j2, j3, j4, j5⟩ := r.row hb
                  rw [hL] at j1
                  cases j1
                  split at hs
                  · -- there is room
                    rename_i hroom
                    have hle : n + k ≤ cap := by
                      cases c with
                      | some c => simp only [roomB] at hroom hcc; subst hcc; exact Nat.le_of_ble_eq_true hroom
                      | none =>
                        simp only [roomB] at hroom hcc
                        have := Nat.le_of_ble_eq_true hroom
                        exact Nat.le_of_mul_le_mul_right (show (n + k) * i.size ≤ cap * i.size by omega) c3
                    have := hat (by omega)
                    subst this
                    cases hw : h.write bb (o + n * i.size) new with
                    | none => simp [hw] at hs
                    | some h2 =>
                      simp only [hw, Option.map_some, Option.some.injEq, Prod.mk.injEq] at hs
                      obtain ⟨rfl, rfl⟩ := hs
                      obtain ⟨w', g1, g2, g3⟩ := write_fits (P := P) r hw hL k2
                      refine ⟨.slice (some ⟨L.m, L.m0 + o, none⟩) (n + k) cap, w', φ, ?_, ⟨L, _, cap, hL, rfl, fun _ => rfl, hle, hcm, hsz, hcc⟩, g2, g3⟩
                      rw [append_room ht hi hu hd ty w k3 k4 hle]
                      simp [Addr.add_lit, Nat.add_assoc, g1]
                  · rename_i hnr
                    split at hs
                    · rename_i hown
                      simp only [Option.some.injEq, Prod.mk.injEq] at hs
                      obtain ⟨rfl, rfl⟩ := hs
                      -- the old elements
                      have hold : ∃ os : List Value, os.length = n * i.size ∧ All2 (CR φ) ((cs.drop o).take (n * i.size)) os ∧ ∀ W : World, W.heap = w.heap → (Builtin.firstCells i.size n (.slice (some ad) n cap)).run P W = .ok os.toArray W := by
                        have hr : h.read bb o (n * i.size) = some ((cs.drop o).take (n * i.size)) := by simp [SH.read, hb, hown.1]
                        obtain ⟨os, q1, q2, q3⟩ := read_all2 r hr hL
                        refine ⟨os, q1, q2, fun W hW => ?_⟩
                        by_cases h00 : n = 0
                        · subst h00
                          have : os = [] := List.eq_nil_of_length_eq_zero (by simpa using q1)
                          subst this
                          simp [Builtin.firstCells, loadCells, loadCellsFrom]
                        · have := hat (by omega)
                          subst this
                          exact run_firstCells_some (P := P) W i.size n _ n cap os q1 (fun j v hj => by rw [World.cell?_of_block (w := w) (by rw [hW])]; exact q3 j v hj)
                      obtain ⟨os, o1, o2, o3⟩ := hold
                      by_cases hroom : n + k ≤ cap
                      · -- in place, though nobody knew
                        have hcn : c = none := by
                          cases c with
                          | none => rfl
                          | some c =>
                            simp only [roomB] at hcc hnr
                            subst hcc
                            exact absurd (Nat.ble_eq_true_of_le hroom) hnr
                        subst hcn
                        simp only [Option.isSome_none, Bool.false_eq_true, false_or, if_false] at hown hcc ⊢
                        obtain ⟨hfit, rfl⟩ := hown
                        have := hat (by omega)
                        subst this
                        obtain ⟨e1, e2, e3, e4⟩ := j5 rfl
                        have hmul : (n + k) * i.size = n * i.size + k * i.size := Nat.add_mul _ _ _
                        have hmc := mul_le_of (s := i.size) hroom
                        have hst := run_storeFree (P := P) L.m (L.m0 + o + n * i.size) E fr vs 0 ws w j2 e4 (by rw [k1]; omega) (fun v hv => by
                          obtain ⟨j, hj, rfl⟩ := List.mem_iff_getElem.1 hv
                          have hx : new[j]? = some (new[j]'(by rw [k2.length]; exact hj)) := List.getElem?_eq_getElem _
                          obtain ⟨v', a', b'⟩ := k2.get hx
                          rw [List.getElem?_eq_getElem hj] at a'
                          cases a'
                          exact b'.one)
                        have hheap := setRow_heap w L.m ws (ws.toList.take (L.m0 + o + n * i.size + 0) ++ vs ++ ws.toList.drop (L.m0 + o + n * i.size + 0 + vs.length)).toArray E fr j2
                        have hnl := k2.length
                        have hol := o2.length
                        obtain ⟨g1, g2, g3⟩ := r.rename (w' := w.setRow L.m (ws.toList.take (L.m0 + o + n * i.size + 0) ++ vs ++ ws.toList.drop (L.m0 + o + n * i.size + 0 + vs.length)).toArray) ⟨_, hb, rfl, hL⟩ ((cs.drop o).take (n * i.size) ++ new) ⟨L.m, L.m0 + o, L.sz, (n + k) * i.size⟩ rfl
                          ⟨by simp only [List.length_append]; rw [hol, hnl, k1, o1, hmul], _, E, fr, hheap, fun j x hx => by
                            simp only [Nat.add_zero, List.getElem?_toArray]
                            rw [seg_get _ _ _ _ (by simp; omega)]
                            by_cases q1 : j < n * i.size
                            · rw [List.getElem?_append_left (by rw [hol, o1]; exact q1)] at hx
                              rw [if_pos (by omega)]
                              rw [List.getElem?_take, if_pos q1, List.getElem?_drop] at hx
                              obtain ⟨v, a', b'⟩ := j4 _ _ hx
                              exact ⟨v, by simp; rw [← Nat.add_assoc] at a'; exact a', b'⟩
                            · rw [List.getElem?_append_right (by rw [hol, o1]; omega), hol, o1] at hx
                              obtain ⟨v, a', b'⟩ := k2.get hx
                              have := (List.getElem?_eq_some_iff.1 a').1
                              rw [if_neg (by omega), if_pos (by omega)]
                              exact ⟨v, by rw [← a']; congr 1; omega, b'⟩, fun _ => ⟨e1, by simp; omega, by simp only [List.length_append]; rw [hol, hnl, k1, o1]; simp; omega, by
                            rcases e4 with e4 | e4
                            · exact .inl e4
                            · exact .inr (by simp; omega)⟩⟩
                          (setRow_size _ _ _) (fun k hk => setRow_other w L.m k _ hk) rfl rfl rfl
                        refine ⟨.slice (some ⟨L.m, L.m0 + o, none⟩) (n + k) cap, _, _, ?_, ⟨_, _, cap, g3, rfl, fun _ => by simp, hroom, hcm, by simp only; omega, by simp only; omega⟩, g1, g2⟩
                        rw [append_room ht hi hu hd ty w k3 k4 hroom]
                        simp only [Addr.add_lit]
                        rw [Sem.run_bind, hst]
                        rfl
                      · have hr := append_grow (P := P) (os := os) (b := some ad) (n := n) (c := cap) ht hi hzr hu hd ty w k3 k4' (o3 _ rfl) (by omega) (by omega) (growslice_fits (by omega) c1)
                        have hol := o2.length
                        have hroot : ∃ h1 : SH, h1 = (if c.isSome = true then h else h.put bb none) ∧ h1.next = h.next ∧ HR base φ h1 w ∧ Mv φ h w φ h1 w := by
                          by_cases hcs : c.isSome = true
                          · exact ⟨h, by rw [if_pos hcs], rfl, r, Mv.refl _ _ _⟩
                          · refine ⟨h.put bb none, by rw [if_neg hcs], rfl, ?_⟩
                            exact r.forget (Nat.le_refl _) (fun b q hq => by
                              rw [SH.get_put] at hq
                              split at hq
                              · cases hq
                              · exact hq)
                        obtain ⟨h1, hh, hnx, r1, m1⟩ := hroot
                        rw [← hh, ← hnx]
                        obtain ⟨φ', g1, g2, g3⟩ := grow_rel r1 e (n := n + k) (c := grownCap w (n + k) cap e) (o2.app k2') (by rw [List.length_append, o1, k1', Nat.add_mul]) c3 hzs (grownCap_ge _ _ _ _) (grownCap_le_maxLen _ _ _ _ (by simp only [maxLen]; omega)) (w.drawn + 1) _ rfl
                        refine ⟨_, _, φ', hr, g1, ?_, m1.trans ?_⟩
                        · simpa using g2
                        · simpa using g3
                    · cases hs
                · cases hs
              · cases hs
          · cases hs
        · cases hs
    · cases hs
  · cases hs
end Go.Proofs.Ytgaaffanoegbhaa.Sim
