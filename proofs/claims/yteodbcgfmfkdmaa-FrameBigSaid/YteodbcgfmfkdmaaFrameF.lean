/- Walks of package frame: a seal is opened. -/
import Derived.Test.YteodbcgfmfkdmaaFrameW
import Derived.Deep.Draws
import Derived.Deep.RegionWith
namespace Go.Proofs.Yteodbcgfmfkdmaa
open Go.RowKit

theorem drewN_below (w : World) (n : Nat) : Below w.heap.size w (w.drewN n) := ⟨rfl, rfl, rfl, Nat.le_refl _, fun _ _ => rfl⟩
theorem NewB.none' (e : TypeId) (w : World) : NewB e w w (.slice none 0 0) [] := ⟨World.ownsRow_nil _ _ _ _, by simp, Bytes.nil, Below.refl _ _⟩
theorem NewB.none'' {e : TypeId} {w w1 : World} (h : Below w.heap.size w w1) : NewB e w w1 (.slice none 0 0) [] := ⟨World.ownsRow_nil _ _ _ _, by simp, Bytes.nil, h⟩
theorem NewB.noneN (e : TypeId) (w : World) (n : Nat) : NewB e w (w.drewN n) (.slice none 0 0) [] := ⟨World.ownsRow_nil _ _ _ _, by simp, Bytes.nil, drewN_below w n⟩
set_option maxHeartbeats 400000 in
theorem seal_big (w : World) (N : Nat → Prop) (v : Value) (xs : List Int) (hv : RdL w N v xs) (hs : 65536 < xs.length) :
    Calls Try.prog 15 #[v] w fun e w' => e = .returned (.slice none 0 0) ∧ w = w' := by
  obtain ⟨A, cap, rfl, h1, h2⟩ := hv.slice
  have hl := hv.len
  go_enter Try.func15, Try.ntmps15
  go_wp2
  go_ret
  exact ⟨rfl, rfl⟩

/-- What 'first' gives. -/
def FirstPost (e8 : TypeId) (w : World) (r : Option (List Int)) (e : Ending) (w' : World) : Prop := ∃ v', e = .returned (.tuple #[v', .bool r.isSome]) ∧ NewB e8 w w' v' (r.getD [])
theorem FirstPost.mk {e8 : TypeId} {w w' : World} {r : Option (List Int)} {e : Ending} {v' : Value} (h : e = .returned (.tuple #[v', .bool r.isSome])) (hn : NewB e8 w w' v' (r.getD [])) : FirstPost e8 w r e w' := ⟨v', h, hn⟩
theorem ret2 {v v' : Value} {a b : Bool} (h : v = v') (h2 : a = b) : Ending.returned (.tuple #[v, .bool a]) = .returned (.tuple #[v', .bool b]) := by rw [h, h2]

theorem get_quiet (w : World) (n : Nat) (N : Nat → Prop) (v : Value) (xs : List Int) (hv : RdL w N v xs) (hl : 4 ≤ xs.length) :
    Calls Try.prog 45 #[v] (w.drewN n) fun e w' => e = .returned (.int .u32 ((getB xs : Nat) : Int)) ∧ ∃ m, w' = w.drewN m :=
  Calls.quiet_of (get_calls (w.drewN n) N v xs hv hl)
theorem more_quiet (w : World) (n : Nat) (N : Nat → Prop) (x : Int) (v : Value) (xs : List Int) (h0 : 0 ≤ x) (h1 : x < 4294967296) (hv : RdL w N v xs) :
    Calls Try.prog 39 #[.int .u32 x, v] (w.drewN n) fun e w' => e = .returned (.int .u32 ((crc x.toNat xs : Nat) : Int)) ∧ ∃ m, w' = w.drewN m :=
  Calls.quiet_of_same ((more_calls (w.drewN n) N x v xs h0 h1 hv).mono fun _ _ ⟨a, b⟩ => ⟨a, b.symm⟩)

set_option maxHeartbeats 1000000 in
set_option maxRecDepth 100000 in
theorem first_calls (w : World) (N : Nat → Prop) (v : Value) (xs : List Int) (hv : RdL w N v xs) :
    Calls Try.prog 40 #[v] w (FirstPost 5 w (firstB xs)) := by
  have hl := hv.len
  by_cases h8 : xs.length < 8
  · have Hf := Lib.hid (show firstB xs = none by unfold firstB; rw [if_pos h8])
    obtain ⟨A, cap, rfl, h1, h2⟩ := hv.slice
    go_enter Try.func40, Try.ntmps40
    go_wp2
    go_ret2
    rw [Hf.out]
    exact FirstPost.mk rfl (NewB.none' _ _)
  · obtain ⟨_, ⟨rfl, rfl⟩ | ⟨_, _, _, rfl, _⟩ | ⟨b, o, cap, rfl, h0, h1, h2, h3, h4, hc⟩⟩ := hv.form
    · simp at h8
    · simp at h8
    have hB : RdB w N (.slice (some ⟨b, o, none⟩) xs.length cap) xs := ⟨hv, .inr ⟨_, _, _, _, rfl⟩⟩
    have Hg := Lib.hid (rfl : getB xs = getB xs)
    obtain ⟨g, hg⟩ : ∃ g, getB xs = g := ⟨_, rfl⟩
    have hglt := getB_lt hv.2
    rw [hg] at hglt
    clear hc
    have Hf := Lib.hid (show firstB xs = if 65536 < g ∨ xs.length - 8 < g then none else if getB (xs.drop 4) = sumB (xs.take 4 ++ (xs.drop 8).take g) then some ((xs.drop 8).take g) else none by unfold firstB; rw [if_neg h8, hg])
    have HG := Lib.hid hg
    clear hg Hg
    by_cases hbig : 65536 < g
    · have d1 : decide ((65536 : Int) < (g : Int)) = true := by simp; omega
      go_enter Try.func40, Try.ntmps40
      go_wp2_with (go_at_call 45; refine (get_calls w N _ xs hv (by omega)).mono ?_; rintro e w1 ⟨rfl, n1, rfl⟩; rw [HG.out])
      go_ret2
      rw [Hf.out, if_pos (.inl hbig)]
      exact FirstPost.mk rfl (NewB.noneN _ _ _)
    · have d1 : decide ((65536 : Int) < (g : Int)) = false := by simp; omega
      by_cases hlong : xs.length - 8 < g
      · have d2 : (xs.length : Int) - 8 < (g : Int) := by omega
        go_enter Try.func40, Try.ntmps40
        go_wp2_with (go_at_call 45; refine (get_calls w N _ xs hv (by omega)).mono ?_; rintro e w1 ⟨rfl, n1, rfl⟩; rw [HG.out])
        go_ret2
        rw [Hf.out, if_pos (.inr hlong)]
        exact FirstPost.mk rfl (NewB.noneN _ _ _)
      · have d2 : ¬ (xs.length : Int) - 8 < (g : Int) := by omega
        have Hf2 := Lib.hid (Hf.out.trans (if_neg (by omega)))
        clear Hf
        have Hc4 := Lib.hid (fun (W : World) (hW : RdB W N (.slice (some ⟨b, o, none⟩) xs.length cap) xs) (o2 n2 cap2 : Nat) h1 h2 h3 (h4 : 4 < xs.length → o2 = o + 4) => hW.cut (i := 4) (by omega) b o2 n2 cap2 h1 h2 h3 (fun h => ⟨rfl, h4 h⟩))
        have Hc8 := Lib.hid (fun (W : World) (hW : RdB W N (.slice (some ⟨b, o, none⟩) xs.length cap) xs) (o2 n2 cap2 : Nat) h1 h2 h3 (h4 : 8 < xs.length → o2 = o + 8) => hW.cut (i := 8) (by omega) b o2 n2 cap2 h1 h2 h3 (fun h => ⟨rfl, h4 h⟩))
        have c1 : (0 : Int) ≤ 8 + (g : Int) := by omega
        have c2 : (8 : Int) + (g : Int) ≤ (cap : Int) := by omega
        have c3 : (8 : Int) ≤ 8 + (g : Int) := by omega
        have c4 : (4 : Int) ≤ (cap : Int) := by omega
        have c5 : (4 : Int) ≤ (xs.length : Int) := by omega
        have Hs := Lib.hid (show sumB (xs.take 4 ++ (xs.drop 8).take g) = 4294967295 - crc (crc 4294967295 (xs.take 4)) ((xs.drop 8).take g) by rw [sumB, crc_append])
        have hlt1 := crc_lt (x := 4294967295) (by omega) (hv.2.take 4)
        have hlt2 := crc_lt hlt1 ((hv.2.drop 8).take g)
        have hnot := bits_not hlt2
        have hgl := getB_lt (hv.2.drop 4)
        obtain ⟨s, hs⟩ : ∃ s, 4294967295 - crc (crc 4294967295 (xs.take 4)) ((xs.drop 8).take g) = s := ⟨_, rfl⟩
        rw [hs] at Hs hnot
        clear hs
        have hBx : Bytes ((xs.drop 8).take g) := (hv.2.drop 8).take g
        have Hxl : Hid (((xs.drop 8).take g).length = g) := by show _ = _; simp; omega
        have hkk : ((xs.drop 8).take g).length ≤ 65536 := by have := Hxl.out; omega
        have Hcc : Hid (((4294967295 : Int).toNat) = 4294967295) := rfl
        go_enter Try.func40, Try.ntmps40
        go_wp2_with fail
        refine (get_calls w N _ xs hv (by omega)).mono ?_
        rintro e w1 ⟨rfl, n1, hw1⟩
        rw [HG.out]
        have hB1 : RdB w1 N (.slice (some ⟨b, o, none⟩) xs.length cap) xs := by rw [hw1]; exact hB
        have hb1 : Below w.heap.size w w1 := by rw [hw1]; exact drewN_below w n1
        clear hw1 hB hv
        have H88 := Lib.hid (show 8 + g - 8 = g by omega)
        have hc4 : ¬ cap = 4 := by omega
        obtain ⟨gs, hgs⟩ : ∃ gs, getB (xs.drop 4) = gs := ⟨_, rfl⟩
        have HGS := Lib.hid hgs
        clear hgs
        have Hfin : ∀ (o2 cap2 : Nat) (W : World), cap2 ≤ 9223372036854775807 → (g = 0 ∨ (g ≤ cap2 ∧ (8 < xs.length → o2 = o + 8))) → RdB W N (.slice (some ⟨b, o, none⟩) xs.length cap) xs → RdL W N (.slice (some ⟨b, o2, none⟩) g cap2) ((xs.drop 8).take g) := by
          intro o2 cap2 W q2 q1 q4
          rcases q1 with q1 | ⟨q1, q3⟩
          · rw [q1, List.take_zero]
            exact ⟨⟨by omega, by simp, by simp, .inr ⟨_, _, rfl, by simp, by simpa [maxLen] using q2, fun h => by simp at h, fun j u hu => by simp [u8s] at hu⟩⟩, Bytes.nil⟩
          · have q5 := Hc8.out W q4 o2 (xs.length - 8) (xs.length - 8) rfl (Nat.le_refl _) (by omega) q3
            exact ((q5.front (i := g) (by simp; omega)).recap cap2 q1 q2).1
        have HFin := Lib.hid Hfin
        clear Hfin
        have hbase : w.heap.size ≤ w1.heap.size := hb1.size
        have hsg : ¬ (IntKind.u32.signed = true) := by decide
        go_wp2_with fail
        all_goals
          try rw [H88.out]
          refine wp_region_quiet_lit (by kernel_rfl) (by kernel_rfl) ?_
          repeat (go_big_quiet_step (fail))
          go_big_quiet_step (exact get_quiet w1 _ N _ (xs.drop 4) (Hc4.out w1 hB1 _ _ _ (by omega) (by omega) (by omega) (by omega)).1 (by simp; omega))
          rw [HGS.out]
          repeat (go_big_quiet_step (fail))
          go_big_quiet_step (exact more_quiet w1 _ N 4294967295 _ (xs.take 4) (by omega) (by omega) ((hB1.front (i := 4) (by omega)).recap _ (by omega) (by omega)).1)
          repeat (go_big_quiet_step (fail))
          go_big_quiet_step (exact more_quiet w1 _ N _ _ ((xs.drop 8).take g) (by omega) (by omega) (HFin.out _ _ _ (by omega) (by omega) hB1))
          rw [Hcc.out, Int.toNat_natCast]
          repeat (go_big_quiet_step (fail))
          refine wpQuiet_nil ?_
          intro _ hw'
          obtain ⟨nq, hw''⟩ := hw'
          subst hw''
          clear hnot hlt1 hlt2
          by_cases he : gs = s
          · have Hf3 := Lib.hid (Hf2.out.trans (if_pos (by rw [HGS.out, Hs.out, he])))
            have hne : ((gs : Int) != (s : Int)) = false := by simp [he]
            clear he
            have hown : (w1.drewN nq).alloc (.cells #[] 5) |>.ownsRow w.heap.size 5 1 (.slice (some ⟨w1.heap.size, 0, none⟩) 0 0) 0 [] :=
              World.ownsRow_lit (base := w.heap.size) (e := 5) (size := 1) (w1.drewN nq) #[] 0 (by simpa using hbase) (by simp [maxLen]) rfl
            have hBa : RdB ((w1.drewN nq).alloc (.cells #[] 5)) N (.slice (some ⟨b, o, none⟩) xs.length cap) xs := (show RdB (w1.drewN nq) N _ xs from hB1).below ((Below.refl _ _).alloc (Nat.le_refl _) _)
            go_wp2_with (at_builtin; refine pushs rfl _ _ 22 5 rfl Try.underlying22 Try.infoU8 rfl (by omega) w.heap.size _ _ _ rfl hown (by simp; omega) _ _ _ rfl (HFin.out _ _ _ (by omega) (by omega) hBa).1 (u8s_oneCell _) (by omega) ?_)
            intro A' cap' w3 hown3 hgrow3 hat3
            go_wp2
            go_ret2
            rw [Hf3.out]
            refine FirstPost.mk (ret2 rfl rfl) ⟨by simpa using hown3, by simpa using Nat.le_trans hkk (by omega), hBx, ?_⟩
            have hb3 := (below_drewN' hb1 nq).alloc (by simpa using hbase) (.cells #[] 5)
            exact hb3.grown hgrow3 (by simp; omega) (fun k hk => by simp [Value.ownBlock] at hk; omega)
          · have Hf3 := Lib.hid (Hf2.out.trans (if_neg (by rw [HGS.out, Hs.out]; exact he)))
            have hne : ((gs : Int) != (s : Int)) = true := by simp; omega
            clear he
            go_wp2
            go_ret2
            rw [Hf3.out]
            exact FirstPost.mk rfl ⟨World.ownsRow_nil _ _ _ _, by simp, Bytes.nil, below_drewN' hb1 nq⟩
end Go.Proofs.Yteodbcgfmfkdmaa
