/- The walk of delphilaw1.BinTight. -/
import Derived.Test.YteodbcgfmfkdmaaBinTight
namespace Go.Proofs.Yteodbcgfmfkdmaa
open Go.RowKit

theorem or128 {x : Int} (h0 : 0 ≤ x) (h1 : x ≤ 127) : bits .or .u8 x 128 = x + 128 := by
  obtain ⟨m, rfl⟩ := Int.eq_ofNat_of_zero_le h0
  have := bits_or128 m
  rw [show (m : Int) % 256 = (m : Int) by omega] at this
  rw [this]; omega
theorem cell_own {w : World} {base g n cap : Nat} {e : TypeId} {xs : List Int} (h : w.ownsRow base e 1 (.slice (some ⟨g, 0, none⟩) n cap) n (u8s xs)) {j : Nat} (hj : j < xs.length) : w.cell? ⟨g, j, none⟩ = some (.int .u8 (xs.getD j 0)) := by
  have hn : xs.length = n := by have := h.1; simpa using this
  rw [h.cellAt j (by omega), u8s_get xs j hj]

/-- b, padded. -/
def pads : Nat → List Int → List Int
  | 0, l => l
  | k + 1, l => pad1 (pads k l)

set_option maxHeartbeats 400000 in
set_option maxRecDepth 100000 in
theorem bintight_calls (w : World) (n m : Int) (hn : (Lit.int .i64 n).wf = true) (hm : (Lit.int .i64 m).wf = true) :
    Calls Try.prog 11 #[.int .i64 n, .int .i64 m] w fun e w' => e = .returned (.bool true) ∧ Below w.heap.size w w' := by
  have hn0 : -9223372036854775808 ≤ n ∧ n < 9223372036854775808 := by
    simp [Lit.wf, IntKind.min, IntKind.max, IntKind.signed, IntKind.bits] at hn
    omega
  clear hn hm
  by_cases hout : m < 0 ∨ 12 < m
  · clear hn0
    rcases hout with h | h
    · have hd : decide (m < 0) = true := by simpa using h
      go_enter Try.func11, Try.ntmps11
      go_wp2_with (go_at_call 22; refine (begun1_calls _).mono ?_; rintro e w1 ⟨rfl, hb⟩)
      go_ret
      exact ⟨rfl, hb⟩
    · have hd : decide (m < 0) = false := by simp; omega
      go_enter Try.func11, Try.ntmps11
      go_wp2_with (go_at_call 22; refine (begun1_calls _).mono ?_; rintro e w1 ⟨rfl, hb⟩)
      go_ret
      exact ⟨rfl, hb⟩
  · have hd : decide (m < 0) = false := by simp; omega
    obtain ⟨k, rfl⟩ : ∃ k : Nat, m = k := ⟨m.toNat, by omega⟩
    have hk : k ≤ 12 := by omega
    clear hout
    have Hn := Lib.hid hn0
    have hlen := numB_len hn0.1 hn0.2
    have Hg := Lib.hid (numB_goes n)
    have Hby := Lib.hid (numB_bytes n)
    have Hr := Lib.hid (rnum_numB hn0.1 hn0.2 [])
    obtain ⟨nb, hnb⟩ : ∃ nb, numB n = nb := ⟨_, rfl⟩
    rw [hnb] at hlen Hg Hby Hr
    have Hnb := Lib.hid hnb
    clear hnb
    go_enter Try.func11, Try.ntmps11
    go_wp2_with fail
    refine (begun1_calls _).mono ?_
    rintro e w1 ⟨rfl, hb1⟩
    go_wp2_with fail
    refine (num1_new w1 n Hn.out.1 Hn.out.2).mono ?_
    rintro e w2 ⟨v, rfl, hnew⟩
    rw [Hnb.out] at hnew
    have hsz1 := hb1.size
    have hb2 := below_then' hb1 hsz1 hnew.2.2.2
    have hsz2 := hb2.size
    clear hn0
    go_wp2_with fail
    go_loopw [6, 7] (fun b i wr => ∃ j : Nat, i = .int .i64 j ∧ j ≤ k ∧ wr.ownsRow w1.heap.size 5 1 b (pads j nb).length (u8s (pads j nb)) ∧ Hid ((pads j nb).length = nb.length + j ∧ Goes (pads j nb) ∧ Bytes (pads j nb) ∧ (0 < j → (pads j nb).getD ((pads j nb).length - 1) 0 = 0)) ∧ Below w.heap.size w wr ∧ w1.heap.size ≤ wr.heap.size) (fun _ i _ => k - (intOf i).toNat)
    case atStart => exact ⟨0, rfl, by omega, hnew.1, ⟨rfl, Hg.out, Hby.out, fun h => absurd h (by omega)⟩, hb2, hnew.2.2.2.size⟩
    case round =>
      obtain ⟨j, rfl, hj, hown, hinv, hbel, hszr⟩ := hrel
      obtain ⟨bs, hbs⟩ : ∃ bs, pads j nb = bs := ⟨_, rfl⟩
      rw [hbs] at hown hinv
      have Hbs := Lib.hid hbs
      clear hbs
      have hL : bs.length ≤ 30 := by have := hinv.out.1; omega
      have hpos : 1 ≤ bs.length := hinv.out.2.1.2.1
      by_cases hjk : j < k
      · obtain ⟨g, cap, rfl, hg1, hg2⟩ := hown.form hpos
        have hlast := hinv.out.2.1.2.2
        have hcell := cell_own hown (j := bs.length - 1) (by omega)
        have hfr := hown.frozenAt (bs.length - 1)
        have hor := or128 hlast.1 hlast.2
        have Hst := Lib.hid (hown.stored (bs.length - 1) (.int .u8 (bs.getD (bs.length - 1) 0 + 128)))
        generalize hx : bs.getD (bs.length - 1) 0 = x at hlast hcell hor Hst
        have Hx := Lib.hid hx
        clear hx
        have c0 : (0 : Int) ≤ (bs.length : Int) - 1 := by omega
        have c1 : (bs.length : Int) - 1 < (bs.length : Int) := by omega
        go_wp2_with (at_builtin; refine push1' rfl _ _ 22 5 rfl Try.underlying22 Try.infoU8 rfl (by omega) w1.heap.size _ _ _ rfl Hst.out.1 (by simp; omega) _ _ rfl (by simp) rfl (by omega) ?_)
        intro A' cap' w3 hown' hgrow hat
        go_wp2
        go_roundw
        case rel =>
          have hst := Hst.out
          have hpad : pad1 bs = bs.set (bs.length - 1) (x + 128) ++ [0] := by rw [pad1, Hx.out]
          obtain ⟨p1, p2⟩ := pad1_goes hinv.out.2.1
          have hp : pads (j + 1) nb = pad1 bs := by rw [pads, Hbs.out]
          refine ⟨j + 1, by go_num, by omega, ?_, ?_, ?_, ?_⟩
          · rw [hp, pad1_len, hpad]
            simpa [u8s_append, u8s, List.map_set] using hown'
          · show _ ∧ _
            rw [hp, pad1_len]
            exact ⟨by have := hinv.out.1; omega, p1, pad1_bytes hinv.out.2.1 hinv.out.2.2.1, fun _ => by rw [← pad1_len]; exact p2⟩
          · have hb3 : Below w.heap.size w (World.setCell _ ⟨g, bs.length - 1, none⟩ (.int .u8 (x + 128))) := hbel.grown hst.2 (by omega) (fun k hk => by cases hk; omega)
            exact (hb3.alloc hb3.size _).grown hgrow (by have := hb3.size; simp at this ⊢; omega) (fun k hk => by simp [Value.ownBlock] at hk; omega)
          · have := hgrow.size
            simp at this
            omega
        case measure => simp [intOf]; omega
      · obtain rfl : j = k := by omega
        have hown2 := RdB.of_owns hown (by omega) hinv.out.2.2.1 (fun _ => True) fun _ _ _ => trivial
        have hx0 : Ext [1] w (fun _ => 0) _ (fun _ => 0) := Ext.of_below hbel (fun _ _ => rfl)
        by_cases hz : j = 0
        · have Hbn : Hid (bs = nb) := by have := Hbs.out; rw [hz] at this; exact this.symm
          have hjk0 : ((j : Int) == 0) = true := by simp [hz]
          clear hz hjk
          go_wp2_with fail
          refine (read_calls _ _ _ bs (fun _ => 0) 1 hown2.1).mono ?_
          rintro e w5 ⟨b5, col5, rfl, hR5, hx5⟩
          go_wp2_with fail
          refine (rnum_calls w5 col5 1 b5 _ _ (by omega) hR5).mono ?_
          rintro e w6 ⟨rfl, hR6, hx6⟩
          have hr := Hr.out
          rw [List.append_nil, ← Hbn.out] at hr
          rw [show rRest bs = [] by simp [rRest, hr], show rBad bs false = false by simp [rBad, hr]] at hR6
          rw [show rN bs = n by simp [rN, hr]]
          clear hr
          go_wp2_with (first | (go_at_call 33; refine (rok_calls _ col5 1 b5 _ _ hR6.1).mono ?_; rintro e _ ⟨rfl, rfl⟩) | (go_at_call 34; refine (rleft_calls _ col5 1 b5 _ _ hR6.1).mono ?_; rintro e _ ⟨rfl, rfl⟩))
          go_ret
          exact ⟨rfl, ((hx0.trans (hx5.mono (by simp))).trans hx6).below0 (by simp)⟩
        · have hrn := rN_none (goes_none hinv.out.2.1 (by have := hinv.out.1; have := numB_pos n; rw [Hnb.out] at this; omega) (hinv.out.2.2.2 (by omega)))
          have Hrn := Lib.hid hrn
          clear hrn
          have hjk0 : ((j : Int) == 0) = false := by simp [hz]
          clear hz hjk
          go_wp2_with fail
          refine (read_calls _ _ _ bs (fun _ => 0) 1 hown2.1).mono ?_
          rintro e w5 ⟨b5, col5, rfl, hR5, hx5⟩
          go_wp2_with fail
          refine (rnum_calls w5 col5 1 b5 _ _ (by omega) hR5).mono ?_
          rintro e w6 ⟨rfl, hR6, hx6⟩
          rw [Hrn.out.2.1, Hrn.out.2.2] at hR6
          rw [Hrn.out.1]
          go_wp2_with fail
          refine (rok_calls _ col5 1 b5 _ _ hR6.1).mono ?_
          rintro e _ ⟨rfl, rfl⟩
          go_wp2_with fail
          refine (rleft_calls _ col5 1 b5 _ _ hR6.1).mono ?_
          rintro e _ ⟨rfl, rfl⟩
          go_wp2_with fail
          refine (rflag_calls _ col5 1 b5 _ _ (by omega) hR6).mono ?_
          rintro e w7 ⟨rfl, hR7, hx7⟩
          rw [show rFRest [] = [] from rfl, show rFBad [] true = true from rfl] at hR7
          rw [show rF [] = false from rfl]
          go_wp2_with fail
          refine (rtext_calls _ col5 1 b5 _ _ (by omega) hR7).mono ?_
          rintro e w8 ⟨v8, col8, rfl, ⟨hv8, hR8⟩, hx8⟩
          rw [show rT [] = [] from rfl] at hv8
          obtain ⟨A8, cap8, rfl, _⟩ := hv8.slice
          go_wp2
          go_ret
          exact ⟨rfl, ((((hx0.trans (hx5.mono (by simp))).trans hx6).trans hx7).trans hx8).below0 (by simp)⟩
end Go.Proofs.Yteodbcgfmfkdmaa
