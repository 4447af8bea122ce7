/- Texts of this claim, several in one: SimN, SB1, SF1, SF2, SF3, SB2, SB3, Rl1, Rl2, Rl3, Rl4, Rl5, Rl6, Rl7. -/
import Derived.Test.YteegdhfekemhmaaMgNetCut10
import Derived.Test.YteegdhfekemhmaaChecked
import Derived.Test.YteegdhfekemhmaaRows
namespace Go.Proofs.Yteegdhfekemhmaa
open Go.RowKit Sim

theorem mixed : Try.prog.follows .mixedOrders = true := by kernel_rfl
theorem noNG (f : FuncId) (fn : Func) (h : Try.prog.funcs[f]? = some fn) : (fn.name == "runtime.NumGoroutine") = false := by
  have h1 : Try.prog.funcs.all (fun fn => !(fn.name == "runtime.NumGoroutine")) = true := by kernel_rfl
  have h2 := Array.all_eq_true'.1 h1 fn (Array.mem_of_getElem? h)
  simpa using h2
end Go.Proofs.Yteegdhfekemhmaa

namespace Go.Proofs.Yteegdhfekemhmaa
open Go.RowKit Sim Go Sym
set_option maxRecDepth 100000
set_option linter.unusedVariables false
set_option linter.unusedSimpArgs false
variable {base : Nat}
def u8P (l : List Int) : List PC := l.map fun x => .int .u8 x
theorem u8P_len (l : List Int) : (u8P l).length = l.length := by simp [u8P]
theorem u8P_app (l r : List Int) : u8P (l ++ r) = u8P l ++ u8P r := by simp [u8P]
theorem u8P_at (l : List Int) (j : Nat) (h : j < l.length) : (u8P l)[j]? = some (.int .u8 (l.getD j 0)) := by simp [u8P, h]
theorem u8P_take (l : List Int) (n : Nat) : (u8P l).take n = u8P (l.take n) := by simp [u8P, List.map_take]
theorem u8P_drop (l : List Int) (n : Nat) : (u8P l).drop n = u8P (l.drop n) := by simp [u8P, List.map_drop]
section
variable {P : Program} {n k : Nat} {e : Env} {h : HS} {Q : QX} {K : List Fr}
theorem SOp.shl {nk : NK} {x y : LX} {i j : IntKind} {a b : Int} (hx : xev e x = some (.c (.p (.int i a)))) (hy : xev e y = some (.c (.p (.int j b)))) (h0 : 0 ≤ b) : SOp P n (.bin nk .shl x y) e h (.c (.p (.int i (i.wrap (a * 2 ^ (min b.toNat i.bits)))))) h :=
  SOp.bin hx hy (by simp only [binX]; rw [if_neg (by omega)])
theorem SOp.shr {nk : NK} {x y : LX} {i j : IntKind} {a b : Int} (hx : xev e x = some (.c (.p (.int i a)))) (hy : xev e y = some (.c (.p (.int j b)))) (h0 : 0 ≤ b) : SOp P n (.bin nk .shr x y) e h (.c (.p (.int i (a.fdiv (2 ^ (min b.toNat i.bits)))))) h :=
  SOp.bin hx hy (by simp only [binX]; rw [if_neg (by omega)])
theorem SOp.appAn {s bytes b : Nat} {x y : LX} {v : XC} {ex : List PC} (hx : xev e x = some (.c (.acc b s ex))) (hy : xev e y = some (.c v)) (hel : ElsX h s v []) : SOp P n (.app s bytes x y) e h (.c (.acc b s ex)) h := by
  cases ex with
  | nil => exact step_app hx hy hel (fun _ _ => by simp [XC.sc, XV.sv])
  | cons x0 ex => exact step_app hx hy hel (fun _ _ => by simp [XC.sc, XV.sv])
theorem frameL_acc {g : Nat → Option Nat} {b b' s : Nat} {el : List PC} {r r' : List (Nat × Option XO)} (hg : g b = some b') (hr : frameL g r = some r') : frameL g ((b, accO s el) :: r) = some ((b', accO s el) :: r') := by
  cases el with
  | nil => simp only [accO, frameL, hg, hr]
  | cons x el => simp only [accO, frameL, hg, XO.ren, hr]
end
theorem zz_bits (n : Int) (h0 : -9223372036854775808 ≤ n) (h1 : n < 9223372036854775808) :
    bits .xor .u64 (IntKind.u64.wrap (IntKind.u64.wrap n * 2 ^ (min (1 : Int).toNat IntKind.u64.bits))) (IntKind.u64.wrap (n.fdiv (2 ^ (min (63 : Int).toNat IntKind.i64.bits)))) = (zz n : Int) := by
  have e1 : (2 : Int) ^ (min (1 : Int).toNat IntKind.u64.bits) = 2 := by decide
  have e2 : (2 : Int) ^ (min (63 : Int).toNat IntKind.i64.bits) = 9223372036854775808 := by decide
  rw [e1, e2, Int.fdiv_eq_ediv_of_nonneg _ (by omega)]
  simp only [IntKind.wrap_u64]
  rw [u64_xor _ _ (by omega) (by omega) (by omega) (by omega)]
  by_cases hn : 0 ≤ n
  · have e1 : (n % 18446744073709551616 * 2 % 18446744073709551616).toNat = (2 * n).toNat := by omega
    have e2 : (n / 9223372036854775808 % 18446744073709551616).toNat = 0 := by omega
    rw [e1, e2, Nat.xor_zero, zz, if_pos hn]
  · have e1 : (n % 18446744073709551616 * 2 % 18446744073709551616).toNat = (2 * n + 18446744073709551616).toNat := by omega
    have e2 : (n / 9223372036854775808 % 18446744073709551616).toNat = 2 ^ 64 - 1 := by omega
    rw [e1, e2, xor_ones _ (by omega), zz, if_neg hn]
    omega
theorem or128_bits (m : Nat) : bits .or .u8 (IntKind.u8.wrap (m : Int)) 128 = ((m % 128 + 128 : Nat) : Int) := by
  have e : (IntKind.u8.wrap (m : Int)) = ((m % 256 : Nat) : Int) := by
    have : IntKind.u8.wrap (m : Int) = (m : Int) % 256 := by
      have hs : IntKind.u8.signed = false := rfl
      have hb : IntKind.u8.bits = 8 := rfl
      unfold IntKind.wrap
      simp only [hs, hb, Bool.false_and]
      simp
    rw [this]; omega
  rw [e, show (128 : Int) = ((128 : Nat) : Int) from rfl, u8_or_nat _ _ (by omega) (by omega)]
  congr 1
  apply Nat.eq_of_testBit_eq
  intro i
  rw [Nat.testBit_or]
  have h1 : m % 128 + 128 = 2 ^ 7 * 1 + m % 128 := by omega
  rw [h1, show (256 : Nat) = 2 ^ 8 from rfl, Nat.testBit_mod_two_pow, Nat.testBit_two_pow_mul_add (a := 1) (b := m % 128) (i := 7) (by omega), show (128 : Nat) = 2 ^ 7 from rfl, Nat.testBit_mod_two_pow, Nat.testBit_two_pow]
  by_cases hi : i < 7
  · simp [hi, show i < 8 by omega, show ¬ 7 = i by omega]
  · by_cases h7 : i = 7
    · subst h7; simp
    · have : 0 < i - 7 := by omega
      simp [hi, show ¬ i < 8 by omega, show ¬ 7 = i by omega]
      exact Nat.testBit_lt_two_pow (Nat.lt_of_lt_of_le (show 1 < 2 ^ 1 by omega) (Nat.pow_le_pow_right (by omega) this))
theorem wr_u8 {n : Int} (h : 0 ≤ n) (h' : n < 256) : IntKind.u8.wrap n = n := by
  have hs : IntKind.u8.signed = false := rfl
  have hb : IntKind.u8.bits = 8 := rfl
  unfold IntKind.wrap
  simp only [hs, hb, Bool.false_and]
  simp
  omega
theorem shr7 (m : Nat) : ((m : Int).fdiv (2 ^ (min (7 : Int).toNat IntKind.u64.bits))) = ((m / 128 : Nat) : Int) := by
  have e1 : (2 : Int) ^ (min (7 : Int).toNat IntKind.u64.bits) = 128 := by decide
  rw [e1, Int.fdiv_eq_ediv_of_nonneg _ (by omega)]; omega
def hA (a : Nat) (bs : List Int) : HS := ⟨[(a, accO 1 (u8P bs)), (0, some (.row [.acc a 1 (u8P bs)] true))], a + 1⟩
def hW (a : Nat) (bs : List Int) : HS := ⟨[(a, some (.els 1 (u8P bs))), (0, some (.row [.acc a 1 (u8P bs)] true))], a + 1⟩
def hW0 : HS := ⟨[(0, some (.row [.p (.tz true 1 [] none)] true))], 1⟩
theorem accO_u8 {bs : List Int} (h : bs ≠ []) : accO 1 (u8P bs) = some (.els 1 (u8P bs)) := by
  cases bs with
  | nil => exact absurd rfl h
  | cons x l => rfl
theorem hW_eq {a : Nat} {bs : List Int} (h : bs ≠ []) : hW a bs = hA a bs := by rw [hA, accO_u8 h]; rfl
noncomputable def lWn : {F : LF // lowerF Try.prog 83 = some F} := ⟨_, rfl⟩
theorem wnum_loop (Q : QX) : ∀ (m : Nat) (bs : List Int), (∀ (u : Nat) (bs' : List Int), u ≤ 127 → bs' ++ [(u : Int)] = bs ++ uvar m → Q (.exit 0) [(0, .c (.ptr 0 0)), (4, .c (.p (.int .u64 u)))] (hA 2 bs')) → (uvar m).length + bs.length ≤ 1000000000020 →
    XH Try.prog base lWn.1.n 2 (lWn.1.c.lp 0) [(0, .c (.ptr 0 0)), (4, .c (.p (.int .u64 m)))] (hA 2 bs) Q := by
  intro m
  induction m using Nat.strongRecOn with
  | ind m ih =>
    intro bs hq hu
    refine M.round (M.go rfl ?_)
    refine M.cond rfl (fun hc => ?_) (fun hc => ?_)
    · have hm : 127 < m := by omega
      rw [uvar_big hm] at hq hu
      simp only [List.length_cons] at hu
      have hp := uvar_pos (m / 128)
      refine M.go rfl ?_
      rw [or128_bits]
      refine M.acc trivial rfl rfl rfl (.own rfl rfl) (by simp) (by rw [u8P_len]; simp; omega) ?_
      refine M.go rfl ?_
      refine M.op trivial (SOp.shr rfl rfl (by omega)) ?_
      rw [shr7]
      refine M.go rfl ?_
      have ih' := ih (m / 128) (by omega) (bs ++ [((m % 128 + 128 : Nat) : Int)]) (fun u bs' h1 h2 => hq u bs' h1 (by rw [h2]; simp)) (by simp; omega)
      refine M.again (XH.ren [(0, 0), (1, 1), (2, 4)] ih' rfl (by repeat' (first | exact True.intro | refine ⟨⟨_, _, rfl, rfl, Wk.rfl⟩, ?_⟩ | refine ⟨⟨_, _, accV_ren rfl, rfl, Wk.rfl⟩, ?_⟩ | refine ⟨⟨_, _, accV_ren rfl, rfl, Wk.acc0⟩, ?_⟩ | refine ⟨⟨_, _, rfl, rfl, Wk.uncap⟩, ?_⟩ | refine ⟨⟨_, _, rfl, rfl, Wk.nil⟩, ?_⟩)) ?_)
      unfold hA
      rw [u8P_app]
      exact (by repeat' (first | exact True.intro | refine ⟨⟨_, _, _, rfl, rfl, rfl, WkO.rfl⟩, ?_⟩ | refine HeapOK.acc rfl rfl ?_ | refine HeapOK.es rfl rfl ?_))
    · have hm : m ≤ 127 := by omega
      rw [uvar_small hm] at hq
      refine M.ren [(0, 0), (1, 1), (2, 2)] ?_ trivial rfl (by repeat' (first | exact True.intro | refine ⟨⟨_, _, rfl, rfl, Wk.rfl⟩, ?_⟩ | refine ⟨⟨_, _, accV_ren rfl, rfl, Wk.rfl⟩, ?_⟩ | refine ⟨⟨_, _, accV_ren rfl, rfl, Wk.acc0⟩, ?_⟩ | refine ⟨⟨_, _, rfl, rfl, Wk.uncap⟩, ?_⟩ | refine ⟨⟨_, _, rfl, rfl, Wk.nil⟩, ?_⟩)) (by repeat' (first | exact True.intro | refine ⟨⟨_, _, _, rfl, rfl, rfl, WkO.rfl⟩, ?_⟩ | refine HeapOK.acc rfl rfl ?_ | refine HeapOK.es rfl rfl ?_)) (e' := [(0, .c (.ptr 0 0)), (4, .c (.p (.int .u64 m)))]) (h' := hA 2 bs)
      exact M.exit (M.go rfl (M.done (hq m bs hm rfl)))
theorem wnum_loop0 (Q : QX) : ∀ (m : Nat) (bs : List Int), (∀ (u : Nat) (bs' : List Int), u ≤ 127 → bs' ++ [(u : Int)] = bs ++ uvar m → Q (.exit 0) [(0, .c (.ptr 0 0)), (4, .c (.p (.int .u64 u)))] (hA 2 bs')) → (uvar m).length + bs.length ≤ 1000000000020 →
    XH Try.prog base lWn.1.n 1 (lWn.1.c.lp 0) [(0, .c (.ptr 0 0)), (4, .c (.p (.int .u64 m)))] (hA 2 bs) Q := by
  intro m
  induction m using Nat.strongRecOn with
  | ind m ih =>
    intro bs hq hu
    refine M.round (M.go rfl ?_)
    refine M.cond rfl (fun hc => ?_) (fun hc => ?_)
    · have hm : 127 < m := by omega
      rw [uvar_big hm] at hq hu
      simp only [List.length_cons] at hu
      have hp := uvar_pos (m / 128)
      refine M.go rfl ?_
      rw [or128_bits]
      refine M.acc trivial rfl rfl rfl (.own rfl rfl) (by simp) (by rw [u8P_len]; simp; omega) ?_
      refine M.go rfl ?_
      refine M.op trivial (SOp.shr rfl rfl (by omega)) ?_
      rw [shr7]
      refine M.go rfl ?_
      have ih' := ih (m / 128) (by omega) (bs ++ [((m % 128 + 128 : Nat) : Int)]) (fun u bs' h1 h2 => hq u bs' h1 (by rw [h2]; simp)) (by simp; omega)
      refine M.again (XH.ren [(0, 0), (1, 1), (2, 4)] ih' rfl (by repeat' (first | exact True.intro | refine ⟨⟨_, _, rfl, rfl, Wk.rfl⟩, ?_⟩ | refine ⟨⟨_, _, accV_ren rfl, rfl, Wk.rfl⟩, ?_⟩ | refine ⟨⟨_, _, accV_ren rfl, rfl, Wk.acc0⟩, ?_⟩ | refine ⟨⟨_, _, rfl, rfl, Wk.uncap⟩, ?_⟩ | refine ⟨⟨_, _, rfl, rfl, Wk.nil⟩, ?_⟩)) ?_)
      unfold hA
      rw [u8P_app]
      exact (by repeat' (first | exact True.intro | refine ⟨⟨_, _, _, rfl, rfl, rfl, WkO.rfl⟩, ?_⟩ | refine HeapOK.acc rfl rfl ?_ | refine HeapOK.es rfl rfl ?_))
    · have hm : m ≤ 127 := by omega
      rw [uvar_small hm] at hq
      refine M.ren [(0, 0), (1, 1), (2, 2)] ?_ trivial rfl (by repeat' (first | exact True.intro | refine ⟨⟨_, _, rfl, rfl, Wk.rfl⟩, ?_⟩ | refine ⟨⟨_, _, accV_ren rfl, rfl, Wk.rfl⟩, ?_⟩ | refine ⟨⟨_, _, accV_ren rfl, rfl, Wk.acc0⟩, ?_⟩ | refine ⟨⟨_, _, rfl, rfl, Wk.uncap⟩, ?_⟩ | refine ⟨⟨_, _, rfl, rfl, Wk.nil⟩, ?_⟩)) (by repeat' (first | exact True.intro | refine ⟨⟨_, _, _, rfl, rfl, rfl, WkO.rfl⟩, ?_⟩ | refine HeapOK.acc rfl rfl ?_ | refine HeapOK.es rfl rfl ?_)) (e' := [(0, .c (.ptr 0 0)), (4, .c (.p (.int .u64 m)))]) (h' := hA 2 bs)
      exact M.exit (M.go rfl (M.done (hq m bs hm rfl)))
theorem wnum_spec (bs : List Int) (n : Int) (hb : bs.length ≤ 1000000000000) (hn : InI64 n) : CallS Try.prog base 83 [.c (.ptr 0 0), .c (.p (.int .i64 n))] (hA 1 bs) (.tup []) (hA 2 (bs ++ numB n)) := by
  have hlen := numB_len hn.1 hn.2
  have hnB : numB n = uvar (zz n) := rfl
  refine CallS.of noNG lWn.2 rfl (M.start (M.go rfl ?_))
  refine M.op trivial (SOp.shl rfl rfl (by omega)) ?_
  refine M.go rfl ?_
  refine M.op trivial (SOp.shr rfl rfl (by omega)) ?_
  refine M.go rfl ?_
  rw [zz_bits n hn.1 hn.2]
  obtain ⟨m, hm⟩ : ∃ m, m = zz n := ⟨_, rfl⟩
  rw [hnB, ← hm] at hlen ⊢
  refine M.loop (M.round (M.go rfl ?_))
  refine M.cond rfl (fun hc => ?_) (fun hc => ?_)
  · have hm : 127 < m := by omega
    rw [uvar_big hm] at hlen ⊢
    simp only [List.length_cons] at hlen
    refine M.go rfl ?_
    rw [or128_bits]
    refine M.acc trivial rfl rfl rfl (.own rfl rfl) (by simp) (by rw [u8P_len]; simp; omega) ?_
    refine M.go rfl ?_
    refine M.op trivial (SOp.shr rfl rfl (by omega)) ?_
    rw [shr7]
    refine M.go rfl ?_
    refine M.again (XH.ren [(0, 0), (1, 1), (2, 3)] (wnum_loop _ (m / 128) (bs ++ [((m % 128 + 128 : Nat) : Int)]) (fun u bs' h1 h2 => ?_) (by simp; omega)) rfl (by repeat' (first | exact True.intro | refine ⟨⟨_, _, rfl, rfl, Wk.rfl⟩, ?_⟩ | refine ⟨⟨_, _, accV_ren rfl, rfl, Wk.rfl⟩, ?_⟩ | refine ⟨⟨_, _, accV_ren rfl, rfl, Wk.acc0⟩, ?_⟩ | refine ⟨⟨_, _, rfl, rfl, Wk.uncap⟩, ?_⟩ | refine ⟨⟨_, _, rfl, rfl, Wk.nil⟩, ?_⟩)) ?_)
    · have hl2 := congrArg List.length h2
      simp at hl2
      refine M.q (M.go rfl (M.done (M.q (M.go rfl ?_))))
      rw [wr_u8 (by omega) (by omega)]
      refine M.acc trivial rfl rfl rfl (.own rfl rfl) (by simp) (by rw [u8P_len]; simp; omega) ?_
      refine M.go rfl ?_
      refine M.done (finQ.normal [(0, 0), (1, 1), (2, 4)] rfl rfl rfl Wk.rfl ?_)
      have e1 : bs ++ ((m % 128 + 128 : Nat) : Int) :: uvar (m / 128) = bs' ++ [(u : Int)] := by rw [h2]; simp
      rw [e1]
      unfold hA
      rw [u8P_app]
      exact (by repeat' (first | exact True.intro | refine ⟨⟨_, _, _, rfl, rfl, rfl, WkO.rfl⟩, ?_⟩ | refine HeapOK.acc rfl rfl ?_ | refine HeapOK.es rfl rfl ?_))
    · unfold hA
      rw [u8P_app]
      exact (by repeat' (first | exact True.intro | refine ⟨⟨_, _, _, rfl, rfl, rfl, WkO.rfl⟩, ?_⟩ | refine HeapOK.acc rfl rfl ?_ | refine HeapOK.es rfl rfl ?_))
  · have hm : m ≤ 127 := by omega
    rw [uvar_small hm]
    refine M.exit (M.go rfl (M.done (M.q (M.go rfl ?_))))
    rw [wr_u8 (by omega) (by omega)]
    refine M.acc trivial rfl rfl rfl (.own rfl rfl) (by simp) (by rw [u8P_len]; simp; omega) ?_
    refine M.go rfl ?_
    refine M.done (finQ.normal [(0, 0), (1, 1), (2, 3)] rfl rfl rfl Wk.rfl ?_)
    unfold hA
    rw [u8P_app]
    exact (by repeat' (first | exact True.intro | refine ⟨⟨_, _, _, rfl, rfl, rfl, WkO.rfl⟩, ?_⟩ | refine HeapOK.acc rfl rfl ?_ | refine HeapOK.es rfl rfl ?_))
theorem wnum0_spec (n : Int) (hn : InI64 n) : CallS Try.prog base 83 [.c (.ptr 0 0), .c (.p (.int .i64 n))] hW0 (.tup []) (hW 1 (numB n)) := by
  have hlen := numB_len hn.1 hn.2
  have hnB : numB n = uvar (zz n) := rfl
  rw [hW_eq (by intro e; have := numB_pos n; rw [e] at this; simp at this)]
  obtain ⟨bs, hbs⟩ : ∃ bs : List Int, bs = [] := ⟨_, rfl⟩
  have hb : bs.length ≤ 1000000000000 := by rw [hbs]; simp
  rw [show numB n = bs ++ numB n by rw [hbs]; rfl]
  refine CallS.of noNG lWn.2 rfl (M.start ?_)
  refine M.wkH (b0 := 0) (o' := .row [.acc 1 1 (u8P bs)] true) rfl rfl (WkO.row ⟨by rw [hbs]; exact Wk.acc0, trivial⟩) ?_
  refine M.forgetNC (h' := hA 1 bs) (fun b o hb2 => ?_) (Nat.le_succ _) ?_
  · rw [hbs] at hb2 ⊢
    simp only [hA, HS.get, look_cons, u8P, accO, List.map_nil, HS.put, hW0, Sym.look] at hb2 ⊢
    cases h1 : Nat.beq 1 b <;> cases h2 : Nat.beq 0 b <;> simp_all
  refine M.go rfl ?_
  refine M.op trivial (SOp.shl rfl rfl (by omega)) ?_
  refine M.go rfl ?_
  refine M.op trivial (SOp.shr rfl rfl (by omega)) ?_
  refine M.go rfl ?_
  rw [zz_bits n hn.1 hn.2]
  obtain ⟨m, hm⟩ : ∃ m, m = zz n := ⟨_, rfl⟩
  rw [hnB, ← hm] at hlen ⊢
  refine M.loop (M.round (M.go rfl ?_))
  refine M.cond rfl (fun hc => ?_) (fun hc => ?_)
  · have hm : 127 < m := by omega
    rw [uvar_big hm] at hlen ⊢
    simp only [List.length_cons] at hlen
    refine M.go rfl ?_
    rw [or128_bits]
    refine M.acc trivial rfl rfl rfl (.own rfl rfl) (by simp) (by rw [u8P_len]; simp; omega) ?_
    refine M.go rfl ?_
    refine M.op trivial (SOp.shr rfl rfl (by omega)) ?_
    rw [shr7]
    refine M.go rfl ?_
    refine M.again (XH.ren [(0, 0), (1, 1), (2, 3)] (wnum_loop0 _ (m / 128) (bs ++ [((m % 128 + 128 : Nat) : Int)]) (fun u bs' h1 h2 => ?_) (by simp; omega)) rfl (by repeat' (first | exact True.intro | refine ⟨⟨_, _, rfl, rfl, Wk.rfl⟩, ?_⟩ | refine ⟨⟨_, _, accV_ren rfl, rfl, Wk.rfl⟩, ?_⟩ | refine ⟨⟨_, _, accV_ren rfl, rfl, Wk.acc0⟩, ?_⟩ | refine ⟨⟨_, _, rfl, rfl, Wk.uncap⟩, ?_⟩ | refine ⟨⟨_, _, rfl, rfl, Wk.nil⟩, ?_⟩)) ?_)
    · have hl2 := congrArg List.length h2
      simp at hl2
      refine M.q (M.go rfl (M.done (M.q (M.go rfl ?_))))
      rw [wr_u8 (by omega) (by omega)]
      refine M.acc trivial rfl rfl rfl (.own rfl rfl) (by simp) (by rw [u8P_len]; simp; omega) ?_
      refine M.go rfl ?_
      refine M.done (finQ.normal [(0, 0), (1, 4)] rfl rfl rfl Wk.rfl ?_)
      have e1 : bs ++ ((m % 128 + 128 : Nat) : Int) :: uvar (m / 128) = bs' ++ [(u : Int)] := by rw [h2]; simp
      rw [e1]
      unfold hA
      rw [u8P_app]
      exact (by repeat' (first | exact True.intro | refine ⟨⟨_, _, _, rfl, rfl, rfl, WkO.rfl⟩, ?_⟩ | refine HeapOK.acc rfl rfl ?_ | refine HeapOK.es rfl rfl ?_))
    · unfold hA
      rw [u8P_app]
      exact (by repeat' (first | exact True.intro | refine ⟨⟨_, _, _, rfl, rfl, rfl, WkO.rfl⟩, ?_⟩ | refine HeapOK.acc rfl rfl ?_ | refine HeapOK.es rfl rfl ?_))
  · have hm : m ≤ 127 := by omega
    rw [uvar_small hm]
    refine M.exit (M.go rfl (M.done (M.q (M.go rfl ?_))))
    rw [wr_u8 (by omega) (by omega)]
    refine M.acc trivial rfl rfl rfl (.own rfl rfl) (by simp) (by rw [u8P_len]; simp; omega) ?_
    refine M.go rfl ?_
    refine M.done (finQ.normal [(0, 0), (1, 3)] rfl rfl rfl Wk.rfl ?_)
    unfold hA
    rw [u8P_app]
    exact (by repeat' (first | exact True.intro | refine ⟨⟨_, _, _, rfl, rfl, rfl, WkO.rfl⟩, ?_⟩ | refine HeapOK.acc rfl rfl ?_ | refine HeapOK.es rfl rfl ?_))
theorem wnum_spec' (bs : List Int) (n : Int) (hne : bs ≠ []) (hb : bs.length ≤ 1000000000000) (hn : InI64 n) : CallS Try.prog base 83 [.c (.ptr 0 0), .c (.p (.int .i64 n))] (hW 1 bs) (.tup []) (hW 2 (bs ++ numB n)) := by
  rw [hW_eq hne, hW_eq (by simp [hne])]
  exact wnum_spec bs n hb hn
noncomputable def lWt : {F : LF // lowerF Try.prog 84 = some F} := ⟨_, rfl⟩
theorem wtext_spec (bs : List Int) (z : Bool) (c : Option Nat) (t : List Int) (hne : bs ≠ []) (hb : bs.length ≤ 1000000000000) (ht : t.length ≤ 1000000000000) : CallS Try.prog base 84 [.c (.ptr 0 0), .c (.p (.tz z 1 (u8P t) c))] (hW 1 bs) (.tup []) (hW 2 (bs ++ textB t)) := by
  refine CallS.of noNG lWt.2 rfl (M.start (M.go rfl ?_))
  rw [u8P_len]
  have hlen : (numB (t.length : Int)).length ≤ 10 := numB_len (by omega) (by omega)
  refine M.use trivial (wnum_spec' bs t.length hne hb ⟨by omega, by omega⟩) [(0, 0), (1, 1)] rfl rfl rfl (by repeat' (first | exact True.intro | refine ⟨⟨_, _, _, rfl, rfl, rfl, WkO.rfl⟩, ?_⟩ | refine HeapOK.acc rfl rfl ?_ | refine HeapOK.es rfl rfl ?_)) rfl rfl ?_
  refine M.go rfl ?_
  obtain ⟨cs, hcs⟩ : ∃ cs, cs = bs ++ numB (t.length : Int) := ⟨_, rfl⟩
  have hcn : cs ≠ [] := by rw [hcs]; simp [hne]
  have hcl : cs.length ≤ 1000000000010 := by rw [hcs]; simp; omega
  rw [show bs ++ textB t = cs ++ t by rw [hcs]; simp [textB]]
  rw [← hcs, hW_eq (bs := cs ++ t) (by simp [hcn])]
  cases t with
  | nil =>
    refine M.op trivial (SOp.appAn rfl rfl .tz) ?_
    refine M.go rfl ?_
    refine M.done (finQ.normal [(0, 0), (1, 1), (2, 2)] rfl rfl rfl Wk.rfl ?_)
    unfold hA
    rw [List.append_nil, accO_u8 hcn]
    exact (by repeat' (first | exact True.intro | refine ⟨⟨_, _, _, rfl, rfl, rfl, WkO.rfl⟩, ?_⟩ | refine HeapOK.acc rfl rfl ?_ | refine HeapOK.es rfl rfl ?_))
  | cons x t =>
    refine M.acc trivial rfl (by rw [accO_u8 hcn]; rfl) rfl .tz (by simp [u8P]) (by rw [u8P_len, u8P_len]; simp at ht ⊢; omega) ?_
    refine M.go rfl ?_
    refine M.done (finQ.normal [(0, 0), (1, 1), (2, 3)] rfl rfl rfl Wk.rfl ?_)
    unfold hA
    rw [u8P_app]
    exact (by repeat' (first | exact True.intro | refine ⟨⟨_, _, _, rfl, rfl, rfl, WkO.rfl⟩, ?_⟩ | refine HeapOK.acc rfl rfl ?_ | refine HeapOK.es rfl rfl ?_))
noncomputable def lWf : {F : LF // lowerF Try.prog 112 = some F} := ⟨_, rfl⟩
theorem wflag_spec (bs : List Int) (f : Bool) (hne : bs ≠ []) (hb : bs.length ≤ 1000000000000) : CallS Try.prog base 112 [.c (.ptr 0 0), .c (.p (.bs f))] (hW 1 bs) (.tup []) (hW 2 (bs ++ flagB f)) := by
  rw [hW_eq hne, hW_eq (by simp [hne])]
  refine CallS.of noNG lWf.2 rfl (M.start (M.go rfl ?_))
  refine M.condB rfl (fun h => ?_) (fun h => ?_)
  all_goals
    subst h
    refine M.go rfl ?_
    refine M.acc trivial rfl rfl rfl (.own rfl rfl) (by simp) (by rw [u8P_len]; simp; omega) ?_
    refine M.go rfl ?_
    refine M.done (finQ.normal [(0, 0), (1, 1), (2, 3)] rfl rfl rfl Wk.rfl ?_)
    unfold hA
    rw [u8P_app]
    exact (by repeat' (first | exact True.intro | refine ⟨⟨_, _, _, rfl, rfl, rfl, WkO.rfl⟩, ?_⟩ | refine HeapOK.acc rfl rfl ?_ | refine HeapOK.es rfl rfl ?_))
noncomputable def lBc1 : {F : LF // lowerF Try.prog 96 = some F} := ⟨_, rfl⟩
theorem bcl_spec (z : Bool) (el : List PC) (c : Option Nat) (hl : el.length ≤ 1000000000000) : CallS Try.prog base 96 [.c (.p (.tz z 1 el c))] ⟨[], 0⟩ (.c (.p (.tz z 1 el none))) ⟨[], 0⟩ := by
  refine CallS.of noNG lBc1.2 rfl (M.start (M.go rfl ?_))
  refine M.condB rfl (fun hc => ?_) (fun hc => ?_)
  · refine M.go rfl ?_
    obtain ⟨rfl, rfl⟩ : z = true ∧ el = [] := by simpa using hc
    refine M.ren [] ?_ trivial rfl (by repeat' (first | exact True.intro | refine ⟨⟨_, _, rfl, rfl, Wk.rfl⟩, ?_⟩ | refine ⟨⟨_, _, accV_ren rfl, rfl, Wk.rfl⟩, ?_⟩ | refine ⟨⟨_, _, accV_ren rfl, rfl, Wk.acc0⟩, ?_⟩ | refine ⟨⟨_, _, rfl, rfl, Wk.uncap⟩, ?_⟩ | refine ⟨⟨_, _, rfl, rfl, Wk.nil⟩, ?_⟩)) (by repeat' (first | exact True.intro | refine ⟨⟨_, _, _, rfl, rfl, rfl, WkO.rfl⟩, ?_⟩ | refine HeapOK.acc rfl rfl ?_ | refine HeapOK.es rfl rfl ?_)) (e' := [(2, .c (.p (.tz true 1 [] none)))]) (h' := ⟨[], 0⟩)
    exact M.ret (M.go rfl (M.done (finQ.ret [] rfl rfl rfl (by first | exact Wk.rfl | exact Wk.uncap | exact Wk.nil | exact Wk.b1 rfl | exact Wk.t2 Wk.rfl (Wk.b1 rfl)) (by repeat' (first | exact True.intro | refine ⟨⟨_, _, _, rfl, rfl, rfl, WkO.rfl⟩, ?_⟩ | refine HeapOK.acc rfl rfl ?_ | refine HeapOK.es rfl rfl ?_)))))
  · refine M.go rfl ?_
    by_cases h0 : el = []
    · subst h0
      obtain rfl : z = false := by simpa using hc
      refine M.op trivial (SOp.app0 rfl rfl .tz (.inl ⟨_, _, _, _, _, rfl⟩)) ?_
      refine M.go rfl ?_
      refine M.freezeN (i := 2) rfl rfl rfl ?_
      refine M.ren [] ?_ trivial rfl (by repeat' (first | exact True.intro | refine ⟨⟨_, _, rfl, rfl, Wk.rfl⟩, ?_⟩ | refine ⟨⟨_, _, accV_ren rfl, rfl, Wk.rfl⟩, ?_⟩ | refine ⟨⟨_, _, accV_ren rfl, rfl, Wk.acc0⟩, ?_⟩ | refine ⟨⟨_, _, rfl, rfl, Wk.uncap⟩, ?_⟩ | refine ⟨⟨_, _, rfl, rfl, Wk.nil⟩, ?_⟩)) (by repeat' (first | exact True.intro | refine ⟨⟨_, _, _, rfl, rfl, rfl, WkO.rfl⟩, ?_⟩ | refine HeapOK.acc rfl rfl ?_ | refine HeapOK.es rfl rfl ?_)) (e' := [(2, .c (.p (.tz false 1 [] none)))]) (h' := ⟨[], 0⟩)
      exact M.ret (M.go rfl (M.done (finQ.ret [] rfl rfl rfl (by first | exact Wk.rfl | exact Wk.uncap | exact Wk.nil | exact Wk.b1 rfl | exact Wk.t2 Wk.rfl (Wk.b1 rfl)) (by repeat' (first | exact True.intro | refine ⟨⟨_, _, _, rfl, rfl, rfl, WkO.rfl⟩, ?_⟩ | refine HeapOK.acc rfl rfl ?_ | refine HeapOK.es rfl rfl ?_)))))
    · refine M.op trivial (SOp.appF (ex := []) rfl rfl rfl (by have := List.length_pos_iff.2 h0; simp; omega) rfl .tz h0 (by simp; omega)) ?_
      refine M.go rfl ?_
      refine M.freezeN (i := 2) rfl rfl (by simp) ?_
      refine M.ren [] ?_ trivial rfl ⟨⟨_, _, rfl, rfl, Wk.some h0⟩, trivial⟩ (by repeat' (first | exact True.intro | refine ⟨⟨_, _, _, rfl, rfl, rfl, WkO.rfl⟩, ?_⟩ | refine HeapOK.acc rfl rfl ?_ | refine HeapOK.es rfl rfl ?_)) (e' := [(2, .c (.p (.tz z 1 el none)))]) (h' := ⟨[], 0⟩)
      exact M.ret (M.go rfl (M.done (finQ.ret [] rfl rfl rfl (by first | exact Wk.rfl | exact Wk.uncap | exact Wk.nil | exact Wk.b1 rfl | exact Wk.t2 Wk.rfl (Wk.b1 rfl)) (by repeat' (first | exact True.intro | refine ⟨⟨_, _, _, rfl, rfl, rfl, WkO.rfl⟩, ?_⟩ | refine HeapOK.acc rfl rfl ?_ | refine HeapOK.es rfl rfl ?_)))))
noncomputable def lWb : {F : LF // lowerF Try.prog 85 = some F} := ⟨_, rfl⟩
theorem wbytes_spec (bs : List Int) (hne : bs ≠ []) (hb : bs.length ≤ 1000000000000) : CallS Try.prog base 85 [.c (.ptr 0 0)] (hW 1 bs) (.c (.p (.tz true 1 (u8P bs) none))) ⟨[], 2⟩ := by
  rw [hW_eq hne]
  refine CallS.of noNG lWb.2 rfl (M.start ?_)
  refine M.accFR (b0 := 0) (o := 0) (b := 1) rfl rfl rfl rfl rfl ?_
  refine M.go rfl ?_
  refine M.use0 trivial (bcl_spec true (u8P bs) none (by rw [u8P_len]; exact hb)) rfl rfl rfl ?_
  refine M.go rfl ?_
  exact M.ret (M.go rfl (M.done (finQ.ret [(0, 0), (1, 1)] rfl rfl rfl Wk.rfl trivial)))
end Go.Proofs.Yteegdhfekemhmaa

namespace Go.Proofs.Yteegdhfekemhmaa
open Go.RowKit Sim Go Sym
set_option maxRecDepth 100000
set_option linter.unusedVariables false
set_option linter.unusedSimpArgs false
variable {base : Nat}
theorem fshr {k : IntKind} {s : Int} {d : Nat} (m : Nat) (h : (2 : Int) ^ (min s.toNat k.bits) = (d : Int)) : (m : Int).fdiv (2 ^ (min s.toNat k.bits)) = ((m / d : Nat) : Int) := by
  rw [h, Int.fdiv_eq_ediv_of_nonneg _ (by omega)]; rfl
theorem wu32 (n : Int) : IntKind.u32.wrap n = n % 4294967296 := by
  have hs : IntKind.u32.signed = false := rfl
  have hb : IntKind.u32.bits = 32 := rfl
  unfold IntKind.wrap
  simp only [hs, hb, Bool.false_and]
  simp
theorem wu8 (n : Int) : IntKind.u8.wrap n = n % 256 := by
  have hs : IntKind.u8.signed = false := rfl
  have hb : IntKind.u8.bits = 8 := rfl
  unfold IntKind.wrap
  simp only [hs, hb, Bool.false_and]
  simp
theorem bits_stepF (x : Nat) (h : x < 4294967296) : bits .xor .u32 ((x / 2 : Nat) : Int) (bits .and .u32 3988292384 (IntKind.u32.wrap (0 - bits .and .u32 (x : Int) 1))) = ((step1 x : Nat) : Int) := by
  rw [wu32, Int.zero_sub, ← bits_step x h]; rfl
theorem wu32n {n : Int} (h : 0 ≤ n) (h' : n < 4294967296) : IntKind.u32.wrap n = n := by rw [wu32]; omega
theorem getD_app0 (pre : List Int) (c : Int) (rest : List Int) : (pre ++ c :: rest).getD pre.length 0 = c := by simp [List.getD]
theorem u8P_app_at (pre : List Int) (c : Int) (rest : List Int) : (u8P (pre ++ c :: rest))[((pre.length : Nat) : Int).toNat]? = some (.int .u8 c) := by
  rw [show ((pre.length : Nat) : Int).toNat = pre.length by omega, u8P_at _ _ (by simp), getD_app0]
noncomputable def lFMo : {F : LF // lowerF Try.prog 126 = some F} := ⟨_, rfl⟩
theorem mo_loop (z : Bool) (cp : Option Nat) (xs : List Int) (hB : Bytes xs) (hl : xs.length ≤ 1000000000000) (x0 : Nat) (Q : QX) (hq : Q (.exit 0) [(0, .c (.p (.int .u32 (crc x0 xs : Nat))))] ⟨[], 0⟩) :
    ∀ (rest pre : List Int) (x : Nat), xs = pre ++ rest → x < 4294967296 → crc x rest = crc x0 xs → XH Try.prog base lFMo.1.n 0 (lFMo.1.c.lp 0) [(0, .c (.p (.int .u32 x))), (7, .c (.p (.tz z 1 (u8P xs) cp))), (8, .c (.p (.int .i64 xs.length))), (9, .c (.p (.int .i64 pre.length)))] ⟨[], 0⟩ Q := by
  intro rest
  induction rest with
  | nil =>
    intro pre x hp hx hc
    have hlen : xs.length = pre.length := by rw [hp]; simp
    refine M.round (M.go rfl ?_)
    refine M.cond rfl (fun hc => absurd hc (by rw [hlen]; omega)) (fun hc2 => ?_)
    have hxx : x = crc x0 xs := hc
    subst hxx
    refine M.ren [] ?_ trivial rfl (by repeat' (first | exact True.intro | refine ⟨⟨_, _, rfl, rfl, Wk.rfl⟩, ?_⟩ | refine ⟨⟨_, _, accV_ren rfl, rfl, Wk.rfl⟩, ?_⟩ | refine ⟨⟨_, _, accV_ren rfl, rfl, Wk.acc0⟩, ?_⟩ | refine ⟨⟨_, _, rfl, rfl, Wk.uncap⟩, ?_⟩ | refine ⟨⟨_, _, rfl, rfl, Wk.nil⟩, ?_⟩)) (by repeat' (first | exact True.intro | refine ⟨⟨_, _, _, rfl, rfl, rfl, WkO.rfl⟩, ?_⟩ | refine HeapOK.acc rfl rfl ?_ | refine HeapOK.es rfl rfl ?_)) (e' := [(0, .c (.p (.int .u32 (crc x0 xs : Nat))))]) (h' := ⟨[], 0⟩)
    exact M.exit (M.go rfl (M.done hq))
  | cons c rest ih =>
    intro pre x hp hx hcr
    have hlen : xs.length = pre.length + (rest.length + 1) := by rw [hp]; simp
    have hc := hB c (by rw [hp]; simp)
    have hw2 : IntKind.i64.wrap ((pre.length : Int) + 1) = ((pre ++ [c]).length : Int) := by rw [wr64 (by omega) (by omega)]; simp
    have ih' := ih (pre ++ [c]) (crcB x c) (by rw [hp]; simp) (crcB_lt hx hc.1 hc.2) (by rw [← hcr]; rfl)
    have hu : (u8P xs)[((pre.length : Int)).toNat]? = some (.int .u8 c) := by rw [hp]; exact u8P_app_at _ _ _
    refine M.round (M.go rfl ?_)
    refine M.cond rfl (fun _ => ?_) (fun hn => absurd (by rw [hlen]; omega) hn)
    refine M.go rfl ?_
    refine M.op trivial (SOp.ia rfl rfl (by omega) hu) ?_
    refine M.op trivial (SOp.ld1e rfl hu rfl rfl rfl) ?_
    refine M.go rfl ?_
    rw [wu32n hc.1 (by omega)]
    obtain ⟨y0, hy0⟩ : ∃ y, y = x ^^^ c.toNat := ⟨_, rfl⟩
    have g0 : y0 < 4294967296 := by rw [hy0]; exact Nat.xor_lt_two_pow (n := 32) (by omega) (by omega)
    rw [bits_byte x c hx hc.1 hc.2, ← hy0]
    refine M.loop (M.round (M.go rfl ?_))
    refine M.cond rfl (fun _ => ?_) (fun hn => absurd (by decide) hn)
    refine M.go rfl ?_
    refine M.op trivial (SOp.shr rfl rfl (by omega)) ?_
    refine M.go rfl ?_
    rw [fshr (d := 2) y0 (by decide), bits_stepF y0 g0]
    obtain ⟨y1, hy1⟩ : ∃ y, y = step1 y0 := ⟨_, rfl⟩
    have g1 : y1 < 4294967296 := by rw [hy1]; exact step1_lt g0
    rw [← hy1]
    refine M.again (M.round (M.go rfl ?_))
    refine M.cond rfl (fun _ => ?_) (fun hn => absurd (by decide) hn)
    refine M.go rfl ?_
    refine M.op trivial (SOp.shr rfl rfl (by omega)) ?_
    refine M.go rfl ?_
    rw [fshr (d := 2) y1 (by decide), bits_stepF y1 g1]
    obtain ⟨y2, hy2⟩ : ∃ y, y = step1 y1 := ⟨_, rfl⟩
    have g2 : y2 < 4294967296 := by rw [hy2]; exact step1_lt g1
    rw [← hy2]
    refine M.again (M.round (M.go rfl ?_))
    refine M.cond rfl (fun _ => ?_) (fun hn => absurd (by decide) hn)
    refine M.go rfl ?_
    refine M.op trivial (SOp.shr rfl rfl (by omega)) ?_
    refine M.go rfl ?_
    rw [fshr (d := 2) y2 (by decide), bits_stepF y2 g2]
    obtain ⟨y3, hy3⟩ : ∃ y, y = step1 y2 := ⟨_, rfl⟩
    have g3 : y3 < 4294967296 := by rw [hy3]; exact step1_lt g2
    rw [← hy3]
    refine M.again (M.round (M.go rfl ?_))
    refine M.cond rfl (fun _ => ?_) (fun hn => absurd (by decide) hn)
    refine M.go rfl ?_
    refine M.op trivial (SOp.shr rfl rfl (by omega)) ?_
    refine M.go rfl ?_
    rw [fshr (d := 2) y3 (by decide), bits_stepF y3 g3]
    obtain ⟨y4, hy4⟩ : ∃ y, y = step1 y3 := ⟨_, rfl⟩
    have g4 : y4 < 4294967296 := by rw [hy4]; exact step1_lt g3
    rw [← hy4]
    refine M.again (M.round (M.go rfl ?_))
    refine M.cond rfl (fun _ => ?_) (fun hn => absurd (by decide) hn)
    refine M.go rfl ?_
    refine M.op trivial (SOp.shr rfl rfl (by omega)) ?_
    refine M.go rfl ?_
    rw [fshr (d := 2) y4 (by decide), bits_stepF y4 g4]
    obtain ⟨y5, hy5⟩ : ∃ y, y = step1 y4 := ⟨_, rfl⟩
    have g5 : y5 < 4294967296 := by rw [hy5]; exact step1_lt g4
    rw [← hy5]
    refine M.again (M.round (M.go rfl ?_))
    refine M.cond rfl (fun _ => ?_) (fun hn => absurd (by decide) hn)
    refine M.go rfl ?_
    refine M.op trivial (SOp.shr rfl rfl (by omega)) ?_
    refine M.go rfl ?_
    rw [fshr (d := 2) y5 (by decide), bits_stepF y5 g5]
    obtain ⟨y6, hy6⟩ : ∃ y, y = step1 y5 := ⟨_, rfl⟩
    have g6 : y6 < 4294967296 := by rw [hy6]; exact step1_lt g5
    rw [← hy6]
    refine M.again (M.round (M.go rfl ?_))
    refine M.cond rfl (fun _ => ?_) (fun hn => absurd (by decide) hn)
    refine M.go rfl ?_
    refine M.op trivial (SOp.shr rfl rfl (by omega)) ?_
    refine M.go rfl ?_
    rw [fshr (d := 2) y6 (by decide), bits_stepF y6 g6]
    obtain ⟨y7, hy7⟩ : ∃ y, y = step1 y6 := ⟨_, rfl⟩
    have g7 : y7 < 4294967296 := by rw [hy7]; exact step1_lt g6
    rw [← hy7]
    refine M.again (M.round (M.go rfl ?_))
    refine M.cond rfl (fun _ => ?_) (fun hn => absurd (by decide) hn)
    refine M.go rfl ?_
    refine M.op trivial (SOp.shr rfl rfl (by omega)) ?_
    refine M.go rfl ?_
    rw [fshr (d := 2) y7 (by decide), bits_stepF y7 g7]
    obtain ⟨y8, hy8⟩ : ∃ y, y = step1 y7 := ⟨_, rfl⟩
    have g8 : y8 < 4294967296 := by rw [hy8]; exact step1_lt g7
    rw [← hy8]
    refine M.again (M.round (M.go rfl ?_))
    refine M.cond rfl (fun hn => absurd hn (by decide)) (fun _ => ?_)
    refine M.exit (M.go rfl ?_)
    iterate 9 refine M.done (M.q (M.go rfl ?_))
    have hy : y8 = crcB x c := by rw [hy8, hy7, hy6, hy5, hy4, hy3, hy2, hy1, hy0]; rfl
    rw [hy]
    rw [hw2]
    exact M.again (XH.ren [] ih' rfl (by repeat' (first | exact True.intro | refine ⟨⟨_, _, rfl, rfl, Wk.rfl⟩, ?_⟩ | refine ⟨⟨_, _, accV_ren rfl, rfl, Wk.rfl⟩, ?_⟩ | refine ⟨⟨_, _, accV_ren rfl, rfl, Wk.acc0⟩, ?_⟩ | refine ⟨⟨_, _, rfl, rfl, Wk.uncap⟩, ?_⟩ | refine ⟨⟨_, _, rfl, rfl, Wk.nil⟩, ?_⟩)) (by repeat' (first | exact True.intro | refine ⟨⟨_, _, _, rfl, rfl, rfl, WkO.rfl⟩, ?_⟩ | refine HeapOK.acc rfl rfl ?_ | refine HeapOK.es rfl rfl ?_)))
theorem more_spec (x : Nat) (xs : List Int) (hx : x < 4294967296) (hB : Bytes xs) (hl : xs.length ≤ 1000000000000) (z : Bool) (cp : Option Nat) : CallS Try.prog base 126 [.c (.p (.int .u32 x)), .c (.p (.tz z 1 (u8P xs) cp))] ⟨[], 0⟩ (.c (.p (.int .u32 (crc x xs : Nat)))) ⟨[], 0⟩ := by
  refine CallS.of noNG lFMo.2 rfl (M.start (M.go rfl ?_))
  have hlen : (u8P xs).length = xs.length := u8P_len xs
  refine M.loop (XH.ren [] (mo_loop z cp xs hB hl x _ ?_ xs [] x rfl hx rfl) rfl ?_ (by repeat' (first | exact True.intro | refine ⟨⟨_, _, _, rfl, rfl, rfl, WkO.rfl⟩, ?_⟩ | refine HeapOK.acc rfl rfl ?_ | refine HeapOK.es rfl rfl ?_)))
  · refine M.q (M.go rfl ?_)
    exact M.ret (M.go rfl (M.done (finQ.ret [] rfl rfl rfl (by first | exact Wk.rfl | exact Wk.uncap | exact Wk.nil | exact Wk.b1 rfl | exact Wk.t2 Wk.rfl (Wk.b1 rfl)) (by repeat' (first | exact True.intro | refine ⟨⟨_, _, _, rfl, rfl, rfl, WkO.rfl⟩, ?_⟩ | refine HeapOK.acc rfl rfl ?_ | refine HeapOK.es rfl rfl ?_)))))
  · rw [← hlen]
    exact (by repeat' (first | exact True.intro | refine ⟨⟨_, _, rfl, rfl, Wk.rfl⟩, ?_⟩ | refine ⟨⟨_, _, accV_ren rfl, rfl, Wk.rfl⟩, ?_⟩ | refine ⟨⟨_, _, accV_ren rfl, rfl, Wk.acc0⟩, ?_⟩ | refine ⟨⟨_, _, rfl, rfl, Wk.uncap⟩, ?_⟩ | refine ⟨⟨_, _, rfl, rfl, Wk.nil⟩, ?_⟩))
theorem mo_loopO (xs : List Int) (hB : Bytes xs) (hl : xs.length ≤ 1000000000000) (x0 : Nat) (Q : QX) (hq : Q (.exit 0) [(0, .c (.p (.int .u32 (crc x0 xs : Nat))))] ⟨[(0, some (.els 1 (u8P xs)))], 1⟩) :
    ∀ (rest pre : List Int) (x : Nat), xs = pre ++ rest → x < 4294967296 → crc x rest = crc x0 xs → XH Try.prog base lFMo.1.n 1 (lFMo.1.c.lp 0) [(0, .c (.p (.int .u32 x))), (7, .c (.sl 0 0 xs.length 1 none)), (8, .c (.p (.int .i64 xs.length))), (9, .c (.p (.int .i64 pre.length)))] ⟨[(0, some (.els 1 (u8P xs)))], 1⟩ Q := by
  intro rest
  induction rest with
  | nil =>
    intro pre x hp hx hc
    have hlen : xs.length = pre.length := by rw [hp]; simp
    refine M.round (M.go rfl ?_)
    refine M.cond rfl (fun hc => absurd hc (by rw [hlen]; omega)) (fun hc2 => ?_)
    have hxx : x = crc x0 xs := hc
    subst hxx
    refine M.ren [(0, 0)] ?_ trivial rfl (by repeat' (first | exact True.intro | refine ⟨⟨_, _, rfl, rfl, Wk.rfl⟩, ?_⟩ | refine ⟨⟨_, _, accV_ren rfl, rfl, Wk.rfl⟩, ?_⟩ | refine ⟨⟨_, _, accV_ren rfl, rfl, Wk.acc0⟩, ?_⟩ | refine ⟨⟨_, _, rfl, rfl, Wk.uncap⟩, ?_⟩ | refine ⟨⟨_, _, rfl, rfl, Wk.nil⟩, ?_⟩)) (by repeat' (first | exact True.intro | refine ⟨⟨_, _, _, rfl, rfl, rfl, WkO.rfl⟩, ?_⟩ | refine HeapOK.acc rfl rfl ?_ | refine HeapOK.es rfl rfl ?_)) (e' := [(0, .c (.p (.int .u32 (crc x0 xs : Nat))))]) (h' := ⟨[(0, some (.els 1 (u8P xs)))], 1⟩)
    exact M.exit (M.go rfl (M.done hq))
  | cons c rest ih =>
    intro pre x hp hx hcr
    have hlen : xs.length = pre.length + (rest.length + 1) := by rw [hp]; simp
    have hc := hB c (by rw [hp]; simp)
    have hw2 : IntKind.i64.wrap ((pre.length : Int) + 1) = ((pre ++ [c]).length : Int) := by rw [wr64 (by omega) (by omega)]; simp
    have ih' := ih (pre ++ [c]) (crcB x c) (by rw [hp]; simp) (crcB_lt hx hc.1 hc.2) (by rw [← hcr]; rfl)
    have hu : (u8P xs)[((pre.length : Int)).toNat]? = some (.int .u8 c) := by rw [hp]; exact u8P_app_at _ _ _
    refine M.round (M.go rfl ?_)
    refine M.cond rfl (fun _ => ?_) (fun hn => absurd (by rw [hlen]; omega) hn)
    refine M.go rfl ?_
    refine M.op trivial (SOp.iaOn rfl rfl (by omega)) ?_
    refine M.op trivial (SOp.ld1O rfl rfl hu rfl rfl rfl) ?_
    refine M.go rfl ?_
    rw [wu32n hc.1 (by omega)]
    obtain ⟨y0, hy0⟩ : ∃ y, y = x ^^^ c.toNat := ⟨_, rfl⟩
    have g0 : y0 < 4294967296 := by rw [hy0]; exact Nat.xor_lt_two_pow (n := 32) (by omega) (by omega)
    rw [bits_byte x c hx hc.1 hc.2, ← hy0]
    refine M.loop (M.round (M.go rfl ?_))
    refine M.cond rfl (fun _ => ?_) (fun hn => absurd (by decide) hn)
    refine M.go rfl ?_
    refine M.op trivial (SOp.shr rfl rfl (by omega)) ?_
    refine M.go rfl ?_
    rw [fshr (d := 2) y0 (by decide), bits_stepF y0 g0]
    obtain ⟨y1, hy1⟩ : ∃ y, y = step1 y0 := ⟨_, rfl⟩
    have g1 : y1 < 4294967296 := by rw [hy1]; exact step1_lt g0
    rw [← hy1]
    refine M.again (M.round (M.go rfl ?_))
    refine M.cond rfl (fun _ => ?_) (fun hn => absurd (by decide) hn)
    refine M.go rfl ?_
    refine M.op trivial (SOp.shr rfl rfl (by omega)) ?_
    refine M.go rfl ?_
    rw [fshr (d := 2) y1 (by decide), bits_stepF y1 g1]
    obtain ⟨y2, hy2⟩ : ∃ y, y = step1 y1 := ⟨_, rfl⟩
    have g2 : y2 < 4294967296 := by rw [hy2]; exact step1_lt g1
    rw [← hy2]
    refine M.again (M.round (M.go rfl ?_))
    refine M.cond rfl (fun _ => ?_) (fun hn => absurd (by decide) hn)
    refine M.go rfl ?_
    refine M.op trivial (SOp.shr rfl rfl (by omega)) ?_
    refine M.go rfl ?_
    rw [fshr (d := 2) y2 (by decide), bits_stepF y2 g2]
    obtain ⟨y3, hy3⟩ : ∃ y, y = step1 y2 := ⟨_, rfl⟩
    have g3 : y3 < 4294967296 := by rw [hy3]; exact step1_lt g2
    rw [← hy3]
    refine M.again (M.round (M.go rfl ?_))
    refine M.cond rfl (fun _ => ?_) (fun hn => absurd (by decide) hn)
    refine M.go rfl ?_
    refine M.op trivial (SOp.shr rfl rfl (by omega)) ?_
    refine M.go rfl ?_
    rw [fshr (d := 2) y3 (by decide), bits_stepF y3 g3]
    obtain ⟨y4, hy4⟩ : ∃ y, y = step1 y3 := ⟨_, rfl⟩
    have g4 : y4 < 4294967296 := by rw [hy4]; exact step1_lt g3
    rw [← hy4]
    refine M.again (M.round (M.go rfl ?_))
    refine M.cond rfl (fun _ => ?_) (fun hn => absurd (by decide) hn)
    refine M.go rfl ?_
    refine M.op trivial (SOp.shr rfl rfl (by omega)) ?_
    refine M.go rfl ?_
    rw [fshr (d := 2) y4 (by decide), bits_stepF y4 g4]
    obtain ⟨y5, hy5⟩ : ∃ y, y = step1 y4 := ⟨_, rfl⟩
    have g5 : y5 < 4294967296 := by rw [hy5]; exact step1_lt g4
    rw [← hy5]
    refine M.again (M.round (M.go rfl ?_))
    refine M.cond rfl (fun _ => ?_) (fun hn => absurd (by decide) hn)
    refine M.go rfl ?_
    refine M.op trivial (SOp.shr rfl rfl (by omega)) ?_
    refine M.go rfl ?_
    rw [fshr (d := 2) y5 (by decide), bits_stepF y5 g5]
    obtain ⟨y6, hy6⟩ : ∃ y, y = step1 y5 := ⟨_, rfl⟩
    have g6 : y6 < 4294967296 := by rw [hy6]; exact step1_lt g5
    rw [← hy6]
    refine M.again (M.round (M.go rfl ?_))
    refine M.cond rfl (fun _ => ?_) (fun hn => absurd (by decide) hn)
    refine M.go rfl ?_
    refine M.op trivial (SOp.shr rfl rfl (by omega)) ?_
    refine M.go rfl ?_
    rw [fshr (d := 2) y6 (by decide), bits_stepF y6 g6]
    obtain ⟨y7, hy7⟩ : ∃ y, y = step1 y6 := ⟨_, rfl⟩
    have g7 : y7 < 4294967296 := by rw [hy7]; exact step1_lt g6
    rw [← hy7]
    refine M.again (M.round (M.go rfl ?_))
    refine M.cond rfl (fun _ => ?_) (fun hn => absurd (by decide) hn)
    refine M.go rfl ?_
    refine M.op trivial (SOp.shr rfl rfl (by omega)) ?_
    refine M.go rfl ?_
    rw [fshr (d := 2) y7 (by decide), bits_stepF y7 g7]
    obtain ⟨y8, hy8⟩ : ∃ y, y = step1 y7 := ⟨_, rfl⟩
    have g8 : y8 < 4294967296 := by rw [hy8]; exact step1_lt g7
    rw [← hy8]
    refine M.again (M.round (M.go rfl ?_))
    refine M.cond rfl (fun hn => absurd hn (by decide)) (fun _ => ?_)
    refine M.exit (M.go rfl ?_)
    iterate 9 refine M.done (M.q (M.go rfl ?_))
    have hy : y8 = crcB x c := by rw [hy8, hy7, hy6, hy5, hy4, hy3, hy2, hy1, hy0]; rfl
    rw [hy]
    rw [hw2]
    exact M.again (XH.ren [(0, 0)] ih' rfl (by repeat' (first | exact True.intro | refine ⟨⟨_, _, rfl, rfl, Wk.rfl⟩, ?_⟩ | refine ⟨⟨_, _, accV_ren rfl, rfl, Wk.rfl⟩, ?_⟩ | refine ⟨⟨_, _, accV_ren rfl, rfl, Wk.acc0⟩, ?_⟩ | refine ⟨⟨_, _, rfl, rfl, Wk.uncap⟩, ?_⟩ | refine ⟨⟨_, _, rfl, rfl, Wk.nil⟩, ?_⟩)) (by repeat' (first | exact True.intro | refine ⟨⟨_, _, _, rfl, rfl, rfl, WkO.rfl⟩, ?_⟩ | refine HeapOK.acc rfl rfl ?_ | refine HeapOK.es rfl rfl ?_)))
theorem moreO_spec (x : Nat) (xs : List Int) (hx : x < 4294967296) (hB : Bytes xs) (hl : xs.length ≤ 1000000000000) : CallS Try.prog base 126 [.c (.p (.int .u32 x)), .c (.sl 0 0 xs.length 1 none)] ⟨[(0, some (.els 1 (u8P xs)))], 1⟩ (.c (.p (.int .u32 (crc x xs : Nat)))) ⟨[(0, some (.els 1 (u8P xs)))], 1⟩ := by
  refine CallS.of noNG lFMo.2 rfl (M.start (M.go rfl ?_))
  have hlen : (u8P xs).length = xs.length := u8P_len xs
  refine M.loop (XH.ren [(0, 0)] (mo_loopO xs hB hl x _ ?_ xs [] x rfl hx rfl) rfl ?_ (by repeat' (first | exact True.intro | refine ⟨⟨_, _, _, rfl, rfl, rfl, WkO.rfl⟩, ?_⟩ | refine HeapOK.acc rfl rfl ?_ | refine HeapOK.es rfl rfl ?_)))
  · refine M.q (M.go rfl ?_)
    exact M.ret (M.go rfl (M.done (finQ.ret [(0, 0)] rfl rfl rfl (by first | exact Wk.rfl | exact Wk.uncap | exact Wk.nil | exact Wk.b1 rfl | exact Wk.t2 Wk.rfl (Wk.b1 rfl)) (by repeat' (first | exact True.intro | refine ⟨⟨_, _, _, rfl, rfl, rfl, WkO.rfl⟩, ?_⟩ | refine HeapOK.acc rfl rfl ?_ | refine HeapOK.es rfl rfl ?_)))))
  · exact (by repeat' (first | exact True.intro | refine ⟨⟨_, _, rfl, rfl, Wk.rfl⟩, ?_⟩ | refine ⟨⟨_, _, accV_ren rfl, rfl, Wk.rfl⟩, ?_⟩ | refine ⟨⟨_, _, accV_ren rfl, rfl, Wk.acc0⟩, ?_⟩ | refine ⟨⟨_, _, rfl, rfl, Wk.uncap⟩, ?_⟩ | refine ⟨⟨_, _, rfl, rfl, Wk.nil⟩, ?_⟩))
end Go.Proofs.Yteegdhfekemhmaa

namespace Go.Proofs.Yteegdhfekemhmaa
open Go.RowKit Sim Go Sym
set_option maxRecDepth 100000
set_option linter.unusedVariables false
set_option linter.unusedSimpArgs false
variable {base : Nat}
theorem four_PC (n : Nat) : ([.int .u8 (IntKind.u8.wrap (n : Int)), .int .u8 (IntKind.u8.wrap ((n / 256 : Nat) : Int)), .int .u8 (IntKind.u8.wrap ((n / 65536 : Nat) : Int)), .int .u8 (IntKind.u8.wrap ((n / 16777216 : Nat) : Int))] : List PC) = u8P (four n) := by
  simp only [u8P, four, wu8, List.map_cons, List.map_nil]
  rfl
noncomputable def lFPut : {F : LF // lowerF Try.prog 125 = some F} := ⟨_, rfl⟩
theorem fput0_spec (n : Nat) : CallS Try.prog base 125 [.c (.p (.tz true 0 [] none)), .c (.p (.int .u32 n))] ⟨[], 0⟩ (.c (.sl 0 0 4 1 none)) ⟨[(0, some (.els 1 (u8P (four n))))], 1⟩ := by
  refine CallS.of noNG lFPut.2 rfl (M.start (M.go rfl ?_))
  refine M.op trivial (SOp.shr rfl rfl (by omega)) ?_
  rw [fshr (d := 256) n (by decide)]
  refine M.go rfl ?_
  refine M.op trivial (SOp.shr rfl rfl (by omega)) ?_
  rw [fshr (d := 65536) n (by decide)]
  refine M.go rfl ?_
  refine M.op trivial (SOp.shr rfl rfl (by omega)) ?_
  rw [fshr (d := 16777216) n (by decide)]
  refine M.go rfl ?_
  rw [four_PC]
  refine M.op trivial (SOp.appN rfl rfl (.own rfl rfl) (by simp [u8P, four]) (by rw [u8P_len]; simp [four])) ?_
  rw [show (u8P (four n)).length = 4 from rfl]
  refine M.go rfl ?_
  exact M.ret (M.go rfl (M.done (finQ.ret [(0, 1)] rfl rfl rfl (by first | exact Wk.rfl | exact Wk.uncap | exact Wk.nil | exact Wk.b1 rfl | exact Wk.t2 Wk.rfl (Wk.b1 rfl)) (by repeat' (first | exact True.intro | refine ⟨⟨_, _, _, rfl, rfl, rfl, WkO.rfl⟩, ?_⟩ | refine HeapOK.acc rfl rfl ?_ | refine HeapOK.es rfl rfl ?_)))))
theorem fput_spec (bs : List Int) (n : Nat) (hl : bs.length ≤ 1000000000000) : CallS Try.prog base 125 [.c (.sl 0 0 bs.length 1 none), .c (.p (.int .u32 n))] ⟨[(0, some (.els 1 (u8P bs)))], 1⟩ (.c (.sl 1 0 (bs.length + 4) 1 none)) ⟨[(1, some (.els 1 (u8P (bs ++ four n))))], 2⟩ := by
  refine CallS.of noNG lFPut.2 rfl (M.start (M.go rfl ?_))
  refine M.op trivial (SOp.shr rfl rfl (by omega)) ?_
  rw [fshr (d := 256) n (by decide)]
  refine M.go rfl ?_
  refine M.op trivial (SOp.shr rfl rfl (by omega)) ?_
  rw [fshr (d := 65536) n (by decide)]
  refine M.go rfl ?_
  refine M.op trivial (SOp.shr rfl rfl (by omega)) ?_
  rw [fshr (d := 16777216) n (by decide)]
  refine M.go rfl ?_
  rw [four_PC]
  refine M.op trivial (SOp.appO rfl rfl (u8P_len bs).symm rfl (.own rfl rfl) (by simp [u8P, four]) (by rw [u8P_len, u8P_len]; simp [four]; omega)) ?_
  rw [u8P_len, u8P_len, ← u8P_app, show (four n).length = 4 from rfl]
  refine M.go rfl ?_
  exact M.ret (M.go rfl (M.done (finQ.ret [(0, 0), (1, 2)] rfl rfl rfl (by first | exact Wk.rfl | exact Wk.uncap | exact Wk.nil | exact Wk.b1 rfl | exact Wk.t2 Wk.rfl (Wk.b1 rfl)) (by repeat' (first | exact True.intro | refine ⟨⟨_, _, _, rfl, rfl, rfl, WkO.rfl⟩, ?_⟩ | refine HeapOK.acc rfl rfl ?_ | refine HeapOK.es rfl rfl ?_)))))
noncomputable def lFGet : {F : LF // lowerF Try.prog 129 = some F} := ⟨_, rfl⟩
theorem getF_bits {y0 y1 y2 y3 : Nat} (h0 : y0 < 256) (h1 : y1 < 256) (h2 : y2 < 256) (h3 : y3 < 256) :
    bits .or .u32 (bits .or .u32 (bits .or .u32 (y0 : Int) ((y1 * 256 : Nat) : Int)) ((y2 * 65536 : Nat) : Int)) ((y3 * 16777216 : Nat) : Int) = ((y0 + y1 * 256 + y2 * 65536 + y3 * 16777216 : Nat) : Int) := by
  have e1 := or_join y0 y1 8 (by omega) (by omega) (by omega)
  have e2 := or_join (y0 + y1 * 2 ^ 8) y2 16 (by omega) (by omega) (by omega)
  have e3 := or_join (y0 + y1 * 2 ^ 8 + y2 * 2 ^ 16) y3 24 (by omega) (by omega) (by omega)
  simp only [Nat.reducePow] at e1 e2 e3
  rw [e1, e2, e3]
theorem fshl {k : IntKind} {s : Int} {d : Nat} (m : Nat) (h : (2 : Int) ^ (min s.toNat k.bits) = (d : Int)) : (m : Int) * (2 ^ (min s.toNat k.bits)) = ((m * d : Nat) : Int) := by
  rw [h]; simp
theorem fget_spec (z : Bool) (c : Option Nat) (xs : List Int) (hB : Bytes xs) (hl : 4 ≤ xs.length) : CallS Try.prog base 129 [.c (.p (.tz z 1 (u8P xs) c))] ⟨[], 0⟩ (.c (.p (.int .u32 (getB xs : Nat)))) ⟨[], 0⟩ := by
  have u0 := u8P_at xs 0 (by omega)
  have u1 := u8P_at xs 1 (by omega)
  have u2 := u8P_at xs 2 (by omega)
  have u3 := u8P_at xs 3 (by omega)
  have r0 := hB.at 0
  have r1 := hB.at 1
  have r2 := hB.at 2
  have r3 := hB.at 3
  have Hg : getB xs = (xs.getD 0 0).toNat + (xs.getD 1 0).toNat * 256 + (xs.getD 2 0).toNat * 65536 + (xs.getD 3 0).toNat * 16777216 := rfl
  generalize getB xs = G at Hg
  generalize u8P xs = el at u0 u1 u2 u3
  generalize xs.getD 0 0 = x0 at u0 r0 Hg
  generalize xs.getD 1 0 = x1 at u1 r1 Hg
  generalize xs.getD 2 0 = x2 at u2 r2 Hg
  generalize xs.getD 3 0 = x3 at u3 r3 Hg
  obtain ⟨y0, rfl⟩ := Int.eq_ofNat_of_zero_le r0.1
  obtain ⟨y1, rfl⟩ := Int.eq_ofNat_of_zero_le r1.1
  obtain ⟨y2, rfl⟩ := Int.eq_ofNat_of_zero_le r2.1
  obtain ⟨y3, rfl⟩ := Int.eq_ofNat_of_zero_le r3.1
  refine CallS.of noNG lFGet.2 rfl (M.start (M.go rfl ?_))
  refine M.regD (MD.go rfl ?_)
  refine MD.op trivial (SOp.ia rfl rfl (by omega) u0) ?_
  refine MD.op trivial (SOp.ld1e rfl u0 rfl rfl rfl) ?_
  refine MD.go rfl ?_
  refine MD.op trivial (SOp.ia rfl rfl (by omega) u1) ?_
  refine MD.op trivial (SOp.ld1e rfl u1 rfl rfl rfl) ?_
  refine MD.go rfl ?_
  refine MD.op trivial (SOp.shl rfl rfl (by omega)) ?_
  refine MD.go rfl ?_
  refine MD.op trivial (SOp.ia rfl rfl (by omega) u2) ?_
  refine MD.op trivial (SOp.ld1e rfl u2 rfl rfl rfl) ?_
  refine MD.go rfl ?_
  refine MD.op trivial (SOp.shl rfl rfl (by omega)) ?_
  refine MD.go rfl ?_
  refine MD.op trivial (SOp.ia rfl rfl (by omega) u3) ?_
  refine MD.op trivial (SOp.ld1e rfl u3 rfl rfl rfl) ?_
  refine MD.go rfl ?_
  refine MD.op trivial (SOp.shl rfl rfl (by omega)) ?_
  refine MD.go rfl ?_
  refine MD.nil mixed (Fnl.nodup rfl) (M.go rfl ?_)
  simp only [Int.ofNat_eq_natCast, Int.toNat_natCast] at r0 r1 r2 r3 Hg ⊢
  rw [wu32n (n := (y0 : Int)) (by omega) (by omega), wu32n (n := (y1 : Int)) (by omega) (by omega), wu32n (n := (y2 : Int)) (by omega) (by omega), wu32n (n := (y3 : Int)) (by omega) (by omega)]
  rw [fshl (d := 256) y1 (by decide), fshl (d := 65536) y2 (by decide), fshl (d := 16777216) y3 (by decide)]
  rw [wu32n (n := ((y1 * 256 : Nat) : Int)) (by omega) (by omega), wu32n (n := ((y2 * 65536 : Nat) : Int)) (by omega) (by omega), wu32n (n := ((y3 * 16777216 : Nat) : Int)) (by omega) (by omega)]
  rw [getF_bits (by omega) (by omega) (by omega) (by omega), ← Hg]
  exact M.ret (M.go rfl (M.done (finQ.ret [] rfl rfl rfl (by first | exact Wk.rfl | exact Wk.uncap | exact Wk.nil | exact Wk.b1 rfl | exact Wk.t2 Wk.rfl (Wk.b1 rfl)) (by repeat' (first | exact True.intro | refine ⟨⟨_, _, _, rfl, rfl, rfl, WkO.rfl⟩, ?_⟩ | refine HeapOK.acc rfl rfl ?_ | refine HeapOK.es rfl rfl ?_)))))
noncomputable def lFSeal : {F : LF // lowerF Try.prog 115 = some F} := ⟨_, rfl⟩
def sealV (xs : List Int) : XV := .c (.p (.tz true 1 (u8P (sealB xs)) none))
theorem bits_notF {c : Nat} (h : c < 4294967296) : bits .xor .u32 (if IntKind.u32.signed = true then -1 else IntKind.u32.max) (c : Int) = ((4294967295 - c : Nat) : Int) := by
  have := bits_not h
  rwa [if_neg (by decide)]
theorem sealS_no (z : Bool) (c : Option Nat) (xs : List Int) (h : 65536 < xs.length) : CallS Try.prog base 115 [.c (.p (.tz z 1 (u8P xs) c))] ⟨[], 0⟩ (.c (.p (.tz true 1 [] none))) ⟨[], 0⟩ := by
  have hlen : (u8P xs).length = xs.length := u8P_len xs
  refine CallS.of noNG lFSeal.2 rfl (M.start (M.go rfl ?_))
  refine M.cond rfl (fun _ => ?_) (fun hn => absurd (by rw [hlen]; omega) hn)
  refine M.go rfl ?_
  exact M.ret (M.go rfl (M.done (finQ.ret [] rfl rfl rfl (by first | exact Wk.rfl | exact Wk.uncap | exact Wk.nil | exact Wk.b1 rfl | exact Wk.t2 Wk.rfl (Wk.b1 rfl)) (by repeat' (first | exact True.intro | refine ⟨⟨_, _, _, rfl, rfl, rfl, WkO.rfl⟩, ?_⟩ | refine HeapOK.acc rfl rfl ?_ | refine HeapOK.es rfl rfl ?_)))))
theorem sealS_yes (z : Bool) (c : Option Nat) (xs : List Int) (hB : Bytes xs) (h : xs.length ≤ 65536) : CallS Try.prog base 115 [.c (.p (.tz z 1 (u8P xs) c))] ⟨[], 0⟩ (.c (.p (.tz false 1 (u8P (sealB xs)) none))) ⟨[], 0⟩ := by
  have hlen : (u8P xs).length = xs.length := u8P_len xs
  have hc1 := crc_lt (x := 4294967295) (xs := four xs.length) (by omega) (four_bytes _)
  have hc2 := crc_lt hc1 hB
  have hs : 4294967295 - crc (crc 4294967295 (four xs.length)) xs = sumB (four xs.length ++ xs) := by rw [sumB, crc_append]
  refine CallS.of noNG lFSeal.2 rfl (M.start (M.go rfl ?_))
  refine M.cond rfl (fun hn => absurd hn (by rw [hlen]; omega)) (fun _ => ?_)
  refine M.go rfl ?_
  rw [hlen, wu32n (n := (xs.length : Int)) (by omega) (by omega)]
  refine M.use trivial (fput0_spec xs.length) [] rfl rfl rfl trivial rfl rfl ?_
  refine M.go rfl ?_
  refine M.use trivial (moreO_spec 4294967295 (four xs.length) (by omega) (four_bytes _) (by simp [four])) [(0, 0)] rfl rfl rfl (by repeat' (first | exact True.intro | refine ⟨⟨_, _, _, rfl, rfl, rfl, WkO.rfl⟩, ?_⟩ | refine HeapOK.acc rfl rfl ?_ | refine HeapOK.es rfl rfl ?_)) rfl rfl ?_
  refine M.go rfl ?_
  refine M.use0 trivial (more_spec _ xs hc1 hB (by omega) z c) rfl rfl rfl ?_
  refine M.go rfl ?_
  rw [bits_notF hc2, hs]
  refine M.use trivial (fput_spec (four xs.length) (sumB (four xs.length ++ xs)) (by simp [four])) [(0, 0)] rfl rfl rfl (by repeat' (first | exact True.intro | refine ⟨⟨_, _, _, rfl, rfl, rfl, WkO.rfl⟩, ?_⟩ | refine HeapOK.acc rfl rfl ?_ | refine HeapOK.es rfl rfl ?_)) rfl rfl ?_
  refine M.go rfl ?_
  have hseal : sealB xs = four xs.length ++ four (sumB (four xs.length ++ xs)) ++ xs := seal_eq h
  have hne : u8P (sealB xs) ≠ [] := by rw [hseal]; simp [u8P, four]
  by_cases h0 : xs = []
  · subst h0
    rw [List.append_nil] at hseal
    refine M.op trivial (SOp.app0 rfl rfl .tz (.inl ⟨_, _, _, _, _, rfl⟩)) ?_
    refine M.go rfl ?_
    refine M.freezeN (i := 2) rfl rfl (by simp [u8P, four]) ?_
    rw [← hseal]
    refine M.ren [] ?_ trivial rfl (by repeat' (first | exact True.intro | refine ⟨⟨_, _, rfl, rfl, Wk.rfl⟩, ?_⟩ | refine ⟨⟨_, _, accV_ren rfl, rfl, Wk.rfl⟩, ?_⟩ | refine ⟨⟨_, _, accV_ren rfl, rfl, Wk.acc0⟩, ?_⟩ | refine ⟨⟨_, _, rfl, rfl, Wk.uncap⟩, ?_⟩ | refine ⟨⟨_, _, rfl, rfl, Wk.nil⟩, ?_⟩)) (by repeat' (first | exact True.intro | refine ⟨⟨_, _, _, rfl, rfl, rfl, WkO.rfl⟩, ?_⟩ | refine HeapOK.acc rfl rfl ?_ | refine HeapOK.es rfl rfl ?_)) (e' := [(2, .c (.p (.tz false 1 (u8P (sealB [])) none)))]) (h' := ⟨[], 0⟩)
    exact M.ret (M.go rfl (M.done (finQ.ret [] rfl rfl rfl (by first | exact Wk.rfl | exact Wk.uncap | exact Wk.nil | exact Wk.b1 rfl | exact Wk.t2 Wk.rfl (Wk.b1 rfl)) (by repeat' (first | exact True.intro | refine ⟨⟨_, _, _, rfl, rfl, rfl, WkO.rfl⟩, ?_⟩ | refine HeapOK.acc rfl rfl ?_ | refine HeapOK.es rfl rfl ?_)))))
  · have h1 : u8P xs ≠ [] := by simpa [u8P] using h0
    refine M.op trivial (SOp.appO rfl rfl (by simp [u8P, four]) rfl .tz h1 (by simp [u8P, four]; omega)) ?_
    rw [← u8P_app, ← hseal]
    refine M.go rfl ?_
    refine M.freezeN (i := 2) rfl rfl (by rw [hseal]; simp [u8P, four]; omega) ?_
    refine M.ren [] ?_ trivial rfl (by repeat' (first | exact True.intro | refine ⟨⟨_, _, rfl, rfl, Wk.rfl⟩, ?_⟩ | refine ⟨⟨_, _, accV_ren rfl, rfl, Wk.rfl⟩, ?_⟩ | refine ⟨⟨_, _, accV_ren rfl, rfl, Wk.acc0⟩, ?_⟩ | refine ⟨⟨_, _, rfl, rfl, Wk.uncap⟩, ?_⟩ | refine ⟨⟨_, _, rfl, rfl, Wk.nil⟩, ?_⟩)) (by repeat' (first | exact True.intro | refine ⟨⟨_, _, _, rfl, rfl, rfl, WkO.rfl⟩, ?_⟩ | refine HeapOK.acc rfl rfl ?_ | refine HeapOK.es rfl rfl ?_)) (e' := [(2, .c (.p (.tz false 1 (u8P (sealB xs)) none)))]) (h' := ⟨[], 0⟩)
    exact M.ret (M.go rfl (M.done (finQ.ret [] rfl rfl rfl (by first | exact Wk.rfl | exact Wk.uncap | exact Wk.nil | exact Wk.b1 rfl | exact Wk.t2 Wk.rfl (Wk.b1 rfl)) (by repeat' (first | exact True.intro | refine ⟨⟨_, _, _, rfl, rfl, rfl, WkO.rfl⟩, ?_⟩ | refine HeapOK.acc rfl rfl ?_ | refine HeapOK.es rfl rfl ?_)))))
theorem flatE_u8P : ∀ l : List Int, flatE 1 (u8P l) = l.map fun x => SC.int .u8 x
  | [] => rfl
  | x :: l => by
    have := flatE_u8P l
    simp only [u8P, List.map_cons, flatE] at this ⊢
    rw [this]; rfl
theorem tz_inj {z z' : Bool} {a b : List Int} {c c' : Option Nat} (h : (PC.tz z 1 (u8P a) c).sc = (PC.tz z' 1 (u8P b) c').sc) : a = b := by
  simp only [PC.sc] at h
  cases h1 : z && (u8P a).isEmpty <;> cases h2 : z' && (u8P b).isEmpty <;> rw [h1, h2] at h <;> simp only [cond_true, cond_false] at h
  · simp only [SC.fz.injEq, flatE_u8P] at h
    have := h.2.2.1
    have hinj : ∀ x y : Int, SC.int .u8 x = SC.int .u8 y → x = y := fun x y e => by simpa using e
    exact List.map_inj_right hinj |>.1 this
  · cases h
  · cases h
  · have e1 : a = [] := by have := (Bool.and_eq_true _ _ ▸ h1 : _ ∧ _).2; simpa [u8P] using this
    have e2 : b = [] := by have := (Bool.and_eq_true _ _ ▸ h2 : _ ∧ _).2; simpa [u8P] using this
    rw [e1, e2]
noncomputable def lFFst : {F : LF // lowerF Try.prog 127 = some F} := ⟨_, rfl⟩
def firstV : Option (List Int) → XV
  | some x => .tup [.c (.p (.tz false 1 (u8P x) none)), .c (.p (.bs true))]
  | none => .tup [.c (.p (.tz true 1 [] none)), .c (.p (.bs false))]
theorem first_spec (z : Bool) (c : Option Nat) (xs : List Int) (hB : Bytes xs) (hl : xs.length ≤ 1000000000000) : CallS Try.prog base 127 [.c (.p (.tz z 1 (u8P xs) c))] ⟨[], 0⟩ (firstV (firstB xs)) ⟨[], 0⟩ := by
  have hlen : (u8P xs).length = xs.length := u8P_len xs
  refine CallS.of noNG lFFst.2 rfl (M.start (M.go rfl ?_))
  refine M.cond rfl (fun h8 => ?_) (fun h8 => ?_)
  · have : firstB xs = none := by rw [firstB, if_pos (by rw [hlen] at h8; omega)]
    rw [this]
    refine M.go rfl ?_
    exact M.ret (M.go rfl (M.done (finQ.ret [] rfl rfl rfl (Wk.t2 Wk.nil (Wk.b1 rfl)) (by repeat' (first | exact True.intro | refine ⟨⟨_, _, _, rfl, rfl, rfl, WkO.rfl⟩, ?_⟩ | refine HeapOK.acc rfl rfl ?_ | refine HeapOK.es rfl rfl ?_)))))
  · have h9 : 8 ≤ xs.length := by rw [hlen] at h8; omega
    have hg32 := getB_lt hB
    rw [firstB, if_neg (by omega)]
    refine M.go rfl ?_
    refine M.use0 trivial (fget_spec z c xs hB (by omega)) rfl rfl rfl ?_
    refine M.go rfl ?_
    refine M.dec rfl (fun hg => ?_) (fun hg => ?_)
    · rw [if_pos (.inl (by omega))]
      refine M.go rfl ?_
      exact M.ret (M.go rfl (M.done (finQ.ret [] rfl rfl rfl (Wk.t2 Wk.nil (Wk.b1 rfl)) (by repeat' (first | exact True.intro | refine ⟨⟨_, _, _, rfl, rfl, rfl, WkO.rfl⟩, ?_⟩ | refine HeapOK.acc rfl rfl ?_ | refine HeapOK.es rfl rfl ?_)))))
    · refine M.go rfl ?_
      rw [hlen, wr64 (n := (getB xs : Int)) (by omega) (by omega), wr64 (n := (xs.length : Int) - 8) (by omega) (by omega)]
      refine M.cond rfl (fun hg2 => ?_) (fun hg2 => ?_)
      · rw [if_pos (.inr (by omega))]
        refine M.go rfl ?_
        exact M.ret (M.go rfl (M.done (finQ.ret [] rfl rfl rfl (Wk.t2 Wk.nil (Wk.b1 rfl)) (by repeat' (first | exact True.intro | refine ⟨⟨_, _, _, rfl, rfl, rfl, WkO.rfl⟩, ?_⟩ | refine HeapOK.acc rfl rfl ?_ | refine HeapOK.es rfl rfl ?_)))))
      · rw [if_neg (by omega)]
        refine M.go rfl ?_
        rw [wr64 (n := 8 + IntKind.i64.wrap (getB xs : Int)) (by rw [wr64 (by omega) (by omega)]; omega) (by rw [wr64 (by omega) (by omega)]; omega), wr64 (n := (getB xs : Int)) (by omega) (by omega)]
        refine M.op trivial (SOp.sl (l := 8) (r := 8 + getB xs) rfl ⟨_, _, rfl, by omega, rfl⟩ ⟨_, _, rfl, by omega, by omega⟩ (by omega) (by rw [hlen]; omega)) ?_
        rw [u8P_drop, u8P_take, Nat.add_sub_cancel_left]
        obtain ⟨z1, hz1⟩ : ∃ z1, z1 = (z && (u8P xs).isEmpty) := ⟨_, rfl⟩
        obtain ⟨c1, hc1⟩ : ∃ c1, c1 = c.map (· - 8) := ⟨_, rfl⟩
        rw [← hz1, ← hc1]
        obtain ⟨x, hx⟩ : ∃ x, x = (xs.drop 8).take (getB xs) := ⟨_, rfl⟩
        have hxB : Bytes x := by rw [hx]; exact (hB.drop 8).take _
        have hxl : x.length = getB xs := by rw [hx]; simp; omega
        have ht4 : Bytes (xs.take 4) := hB.take 4
        have hs : getB (xs.drop 4) = sumB (xs.take 4 ++ x) ↔ getB (xs.drop 4) = 4294967295 - crc (crc 4294967295 (xs.take 4)) x := by rw [sumB, crc_append]
        rw [← hx]
        have hcr1 := crc_lt (x := 4294967295) (xs := xs.take 4) (by omega) ht4
        have hcr2 := crc_lt hcr1 hxB
        refine M.go rfl ?_
        refine M.regF (MF.go rfl ?_)
        refine MF.op trivial (SOp.sl (l := 4) (r := xs.length) rfl ⟨_, _, rfl, by omega, rfl⟩ (by rw [hlen]; rfl) (by omega) (by rw [hlen]; omega)) ?_
        rw [u8P_drop, List.take_of_length_le (by rw [u8P_len]; simp)]
        refine MF.go rfl ?_
        refine MF.use0 trivial (fget_spec (z && (u8P xs).isEmpty) (c.map (· - 4)) (xs.drop 4) (hB.drop 4) (by simp; omega)) rfl rfl rfl ?_
        refine MF.go rfl ?_
        refine MF.op trivial (SOp.sl (l := 0) (r := 4) rfl rfl ⟨_, _, rfl, by omega, rfl⟩ (by omega) (by rw [hlen]; omega)) ?_
        rw [List.drop_zero, u8P_take]
        refine MF.go rfl ?_
        refine MF.use0 trivial (more_spec 4294967295 (xs.take 4) (by omega) ht4 (by simp; omega) (z && (u8P xs).isEmpty) (c.map (· - 0))) rfl rfl rfl ?_
        refine MF.go rfl ?_
        refine MF.use0 trivial (more_spec _ x hcr1 hxB (by omega) z1 c1) rfl rfl rfl ?_
        refine MF.go rfl ?_
        rw [bits_notF hcr2]
        have hsame : ∀ {a : Nat} {y : List Int} {z z' : Bool} {c c' : Option Nat}, [XV.c (.p (.int .u32 (a : Nat))), XV.c (.p (.tz z 1 (u8P y) c))].map XV.sv = [XV.c (.p (.int .u32 (4294967295 : Nat))), XV.c (.p (.tz z' 1 (u8P (xs.take 4)) c'))].map XV.sv → a = 4294967295 ∧ y = xs.take 4 := fun {a y z z' c c'} e => by
          simp only [List.map_cons, List.map_nil, XV.sv, XC.sc, PC.sc, List.cons.injEq, SV.c.injEq, SC.int.injEq] at e
          exact ⟨by omega, tz_inj (z := z) (z' := z') (c := c) (c' := c') (by simp only [PC.sc]; exact e.2.1)⟩
        refine MF.nil mixed (Fnl.pairs ?_) rfl (by refine ⟨⟨?_, trivial⟩, trivial⟩; exact SOp.sv (SOp.sl (z := z) (el := u8P xs) (c := c) (l := 0) (r := 4) rfl rfl ⟨_, _, rfl, by omega, rfl⟩ (by omega) (by rw [hlen]; omega)) (by rw [List.drop_zero, u8P_take])) (M.go rfl ?_)
        · intro c2 hc1 d2 hd1 hf ha hh
          simp only [List.mem_cons, List.not_mem_nil, or_false] at hc1 hd1
          rcases hc1 with rfl | rfl | rfl <;> rcases hd1 with rfl | rfl | rfl
          · exact ⟨rfl, rfl⟩
          · obtain ⟨g1, g2⟩ := hsame ha
            exact ⟨by show (XV.c (.p (.int .u32 (crc (crc 4294967295 (xs.take 4)) x : Nat)))).sv = (XV.c (.p (.int .u32 (crc 4294967295 (xs.take 4) : Nat)))).sv; rw [g1, g2, g1], rfl⟩
          · exact absurd (show (126 : Nat) = 129 from hf) (by decide)
          · obtain ⟨g1, g2⟩ := hsame ha.symm
            exact ⟨by show (XV.c (.p (.int .u32 (crc 4294967295 (xs.take 4) : Nat)))).sv = (XV.c (.p (.int .u32 (crc (crc 4294967295 (xs.take 4)) x : Nat)))).sv; rw [g1, g2, g1], rfl⟩
          · exact ⟨rfl, rfl⟩
          · exact absurd (show (126 : Nat) = 129 from hf) (by decide)
          · exact absurd (show (129 : Nat) = 126 from hf) (by decide)
          · exact absurd (show (129 : Nat) = 126 from hf) (by decide)
          · exact ⟨rfl, rfl⟩
        refine M.condN rfl (fun hq => ?_) (fun hq => ?_)
        · rw [if_neg (fun h => hq (by rw [hs.1 h]))]
          refine M.go rfl ?_
          exact M.ret (M.go rfl (M.done (finQ.ret [] rfl rfl rfl (Wk.t2 Wk.nil (Wk.b1 rfl)) (by repeat' (first | exact True.intro | refine ⟨⟨_, _, _, rfl, rfl, rfl, WkO.rfl⟩, ?_⟩ | refine HeapOK.acc rfl rfl ?_ | refine HeapOK.es rfl rfl ?_)))))
        · rw [if_pos (hs.2 (by have := Int.ofNat.inj hq; omega))]
          refine M.go rfl ?_
          by_cases h0 : x = []
          · subst h0
            refine M.op trivial (SOp.app0 rfl rfl .tz (.inl ⟨_, _, _, _, _, rfl⟩)) ?_
            refine M.go rfl ?_
            refine M.freezeN (i := 2) rfl rfl rfl ?_
            refine M.ren [] ?_ trivial rfl (by repeat' (first | exact True.intro | refine ⟨⟨_, _, rfl, rfl, Wk.rfl⟩, ?_⟩ | refine ⟨⟨_, _, accV_ren rfl, rfl, Wk.rfl⟩, ?_⟩ | refine ⟨⟨_, _, accV_ren rfl, rfl, Wk.acc0⟩, ?_⟩ | refine ⟨⟨_, _, rfl, rfl, Wk.uncap⟩, ?_⟩ | refine ⟨⟨_, _, rfl, rfl, Wk.nil⟩, ?_⟩)) (by repeat' (first | exact True.intro | refine ⟨⟨_, _, _, rfl, rfl, rfl, WkO.rfl⟩, ?_⟩ | refine HeapOK.acc rfl rfl ?_ | refine HeapOK.es rfl rfl ?_)) (e' := [(2, .c (.p (.tz false 1 [] none))), (3, .c (.p (.bool true)))]) (h' := ⟨[], 0⟩)
            exact M.ret (M.go rfl (M.done (finQ.ret [] rfl rfl rfl (Wk.t2 Wk.rfl (Wk.b1 rfl)) (by repeat' (first | exact True.intro | refine ⟨⟨_, _, _, rfl, rfl, rfl, WkO.rfl⟩, ?_⟩ | refine HeapOK.acc rfl rfl ?_ | refine HeapOK.es rfl rfl ?_)))))
          · have h1 : u8P x ≠ [] := by simpa [u8P] using h0
            refine M.op trivial (SOp.appF (ex := []) rfl rfl rfl (by have := List.length_pos_iff.2 h1; simp; omega) rfl .tz h1 (by rw [u8P_len]; simp; omega)) ?_
            refine M.go rfl ?_
            refine M.freezeN (i := 2) rfl rfl (by simp) ?_
            refine M.ren [] ?_ trivial rfl (by repeat' (first | exact True.intro | refine ⟨⟨_, _, rfl, rfl, Wk.rfl⟩, ?_⟩ | refine ⟨⟨_, _, accV_ren rfl, rfl, Wk.rfl⟩, ?_⟩ | refine ⟨⟨_, _, accV_ren rfl, rfl, Wk.acc0⟩, ?_⟩ | refine ⟨⟨_, _, rfl, rfl, Wk.uncap⟩, ?_⟩ | refine ⟨⟨_, _, rfl, rfl, Wk.nil⟩, ?_⟩)) (by repeat' (first | exact True.intro | refine ⟨⟨_, _, _, rfl, rfl, rfl, WkO.rfl⟩, ?_⟩ | refine HeapOK.acc rfl rfl ?_ | refine HeapOK.es rfl rfl ?_)) (e' := [(2, .c (.p (.tz false 1 (u8P x) none))), (3, .c (.p (.bool true)))]) (h' := ⟨[], 0⟩)
            exact M.ret (M.go rfl (M.done (finQ.ret [] rfl rfl rfl (Wk.t2 Wk.rfl (Wk.b1 rfl)) (by repeat' (first | exact True.intro | refine ⟨⟨_, _, _, rfl, rfl, rfl, WkO.rfl⟩, ?_⟩ | refine HeapOK.acc rfl rfl ?_ | refine HeapOK.es rfl rfl ?_)))))
end Go.Proofs.Yteegdhfekemhmaa

namespace Go.Proofs.Yteegdhfekemhmaa
open Go.RowKit Sim Go Sym
set_option maxRecDepth 100000
set_option linter.unusedVariables false
set_option linter.unusedSimpArgs false
variable {base : Nat}
noncomputable def lFOpn : {F : LF // lowerF Try.prog 118 = some F} := ⟨_, rfl⟩
theorem open_spec (z : Bool) (c : Option Nat) (xs : List Int) (hB : Bytes xs) (hl : xs.length ≤ 1000000000000) : CallS Try.prog base 118 [.c (.p (.tz z 1 (u8P xs) c))] ⟨[], 0⟩ (firstV (openB xs)) ⟨[], 0⟩ := by
  have hlen : (u8P xs).length = xs.length := u8P_len xs
  refine CallS.of noNG lFOpn.2 rfl (M.start (M.go rfl ?_))
  refine M.use0 trivial (first_spec z c xs hB hl) rfl rfl (by cases firstB xs <;> rfl) ?_
  unfold openB
  cases hf : firstB xs with
  | none =>
    refine M.go rfl ?_
    refine M.decB rfl (fun _ => ?_) (fun hn => by cases hn)
    refine M.go rfl ?_
    exact M.ret (M.go rfl (M.done (finQ.ret [] rfl rfl rfl (Wk.t2 Wk.nil (Wk.b1 rfl)) (by repeat' (first | exact True.intro | refine ⟨⟨_, _, _, rfl, rfl, rfl, WkO.rfl⟩, ?_⟩ | refine HeapOK.acc rfl rfl ?_ | refine HeapOK.es rfl rfl ?_)))))
  | some x =>
    have hx := firstB_len hf
    have hlx : (u8P x).length = x.length := u8P_len x
    simp only []
    refine M.go rfl ?_
    refine M.decB rfl (fun hn => by cases hn) (fun _ => ?_)
    refine M.go rfl ?_
    rw [hlen, hlx, wr64 (n := 8 + (x.length : Int)) (by omega) (by omega)]
    refine M.condN rfl (fun hq => ?_) (fun hq => ?_)
    · rw [if_neg (by omega)]
      refine M.go rfl ?_
      exact M.ret (M.go rfl (M.done (finQ.ret [] rfl rfl rfl (Wk.t2 Wk.nil (Wk.b1 rfl)) (by repeat' (first | exact True.intro | refine ⟨⟨_, _, _, rfl, rfl, rfl, WkO.rfl⟩, ?_⟩ | refine HeapOK.acc rfl rfl ?_ | refine HeapOK.es rfl rfl ?_)))))
    · rw [if_pos (by omega)]
      refine M.go rfl ?_
      exact M.ret (M.go rfl (M.done (finQ.ret [] rfl rfl rfl (Wk.t2 Wk.rfl (Wk.b1 rfl)) (by repeat' (first | exact True.intro | refine ⟨⟨_, _, _, rfl, rfl, rfl, WkO.rfl⟩, ?_⟩ | refine HeapOK.acc rfl rfl ?_ | refine HeapOK.es rfl rfl ?_)))))
end Go.Proofs.Yteegdhfekemhmaa

namespace Go.Proofs.Yteegdhfekemhmaa
open Go.RowKit Sim Go Sym
set_option maxRecDepth 100000
set_option linter.unusedVariables false
set_option linter.unusedSimpArgs false
variable {base : Nat}
structure RS where
  z : Bool
  xs : List Int
  bad : Bool
def hR (r : RS) : HS := ⟨[(0, some (.row [.p (.tz r.z 1 (u8P r.xs) none), .p (.bs r.bad)] true))], 1⟩
def RS.fail : RS := ⟨true, [], true⟩
structure RS.ok (r : RS) : Prop where
  len : r.xs.length ≤ 1000000000000
  b : Bytes r.xs
  e : r.bad = true → r.xs = []
  y : r.bad = true → r.z = true
theorem RS.fail_ok : RS.fail.ok := ⟨by simp [RS.fail], Bytes.nil, fun _ => rfl, fun _ => rfl⟩
noncomputable def lRf : {F : LF // lowerF Try.prog 121 = some F} := ⟨_, rfl⟩
theorem rfail_spec (r : RS) : CallS Try.prog base 121 [.c (.ptr 0 0)] (hR r) (.tup []) (hR RS.fail) := by
  refine CallS.of noNG lRf.2 rfl (M.start (M.go rfl ?_))
  exact M.done (finQ.normal [(0, 0)] rfl rfl rfl Wk.rfl ⟨⟨_, _, _, rfl, rfl, rfl, WkO.row ⟨Wk.nil, Wk.b1 rfl, trivial⟩⟩, trivial⟩)
noncomputable def lRo : {F : LF // lowerF Try.prog 122 = some F} := ⟨_, rfl⟩
theorem rok_spec (r : RS) : CallS Try.prog base 122 [.c (.ptr 0 0)] (hR r) (.c (.p (.bs (!r.bad)))) (hR r) := by
  refine CallS.of noNG lRo.2 rfl (M.start (M.go rfl ?_))
  exact M.ret (M.go rfl (M.done (finQ.ret [(0, 0)] rfl rfl rfl (by first | exact Wk.rfl | exact Wk.uncap | exact Wk.nil | exact Wk.b1 rfl | exact Wk.t2 Wk.rfl (Wk.b1 rfl)) (by repeat' (first | exact True.intro | refine ⟨⟨_, _, _, rfl, rfl, rfl, WkO.rfl⟩, ?_⟩ | refine HeapOK.acc rfl rfl ?_ | refine HeapOK.es rfl rfl ?_)))))
noncomputable def lRl : {F : LF // lowerF Try.prog 123 = some F} := ⟨_, rfl⟩
theorem rleft_spec (r : RS) : CallS Try.prog base 123 [.c (.ptr 0 0)] (hR r) (.c (.p (.int .i64 r.xs.length))) (hR r) := by
  refine CallS.of noNG lRl.2 rfl (M.start (M.go rfl ?_))
  rw [u8P_len]
  exact M.ret (M.go rfl (M.done (finQ.ret [(0, 0)] rfl rfl rfl (by first | exact Wk.rfl | exact Wk.uncap | exact Wk.nil | exact Wk.b1 rfl | exact Wk.t2 Wk.rfl (Wk.b1 rfl)) (by repeat' (first | exact True.intro | refine ⟨⟨_, _, _, rfl, rfl, rfl, WkO.rfl⟩, ?_⟩ | refine HeapOK.acc rfl rfl ?_ | refine HeapOK.es rfl rfl ?_)))))
noncomputable def lRr : {F : LF // lowerF Try.prog 86 = some F} := ⟨_, rfl⟩
theorem rread_spec (z : Bool) (xs : List Int) (c : Option Nat) (hl : xs.length ≤ 1000000000000) : CallS Try.prog base 86 [.c (.p (.tz z 1 (u8P xs) c))] ⟨[], 0⟩ (.c (.ptr 0 0)) (hR ⟨z, xs, false⟩) := by
  refine CallS.of noNG lRr.2 rfl (M.start (M.go rfl ?_))
  refine M.use0 trivial (bcl_spec z (u8P xs) c (by rw [u8P_len]; exact hl)) rfl rfl rfl ?_
  refine M.go rfl ?_
  exact M.ret (M.go rfl (M.done (finQ.ret [(0, 0)] rfl rfl rfl Wk.rfl ⟨⟨_, _, _, rfl, rfl, rfl, WkO.row ⟨Wk.rfl, Wk.b1 rfl, trivial⟩⟩, trivial⟩)))
/-! Num. -/
noncomputable def lRn : {F : LF // lowerF Try.prog 87 = some F} := ⟨_, rfl⟩
def RS.num (r : RS) : Int × RS := match rnum r.xs with
  | some (n, rest) => (n, ⟨false, rest, r.bad⟩)
  | none => (0, RS.fail)
theorem RS.num_eq (r : RS) : r.num.1 = rN r.xs ∧ r.num.2.xs = rRest r.xs ∧ r.num.2.bad = rBad r.xs r.bad := by
  unfold RS.num rN rRest rBad
  split <;> simp [RS.fail, *]
theorem and_127 (x : Int) (h0 : 0 ≤ x) (h1 : x ≤ 255) (hs : x ≤ 127) : bits .and .u8 x 127 = x := by
  obtain ⟨m, rfl⟩ : ∃ m : Nat, x = m := ⟨x.toNat, by omega⟩
  have : m = 0 ∨ m ≠ 0 := by omega
  rw [show (127 : Int) = ((127 : Nat) : Int) from rfl, u8_and_nat _ _ (by omega) (by omega)]
  congr 1
  have h2 : m &&& 127 = m % 128 := Nat.and_two_pow_sub_one_eq_mod m 7
  rw [h2]; omega
theorem wrap_u64n (u : Nat) (h : u < 18446744073709551616) : IntKind.u64.wrap (u : Int) = u := by
  rw [IntKind.wrap_u64]; omega
theorem unzz_bits (v : Nat) (hv : v < 18446744073709551616) : bits .xor .i64 (IntKind.i64.wrap ((v : Int).fdiv (2 ^ (min (1 : Int).toNat IntKind.u64.bits)))) (IntKind.i64.wrap (0 - IntKind.i64.wrap (bits .and .u64 (v : Int) 1))) = unzz v := by
  have e1 : (2 : Int) ^ (min (1 : Int).toNat IntKind.u64.bits) = 2 := by decide
  rw [e1, Int.fdiv_eq_ediv_of_nonneg _ (by omega), ← bits_unzz hv]
  have e2 : IntKind.i64.wrap ((v : Int) / 2) = (v : Int) / 2 := wr64 (by omega) (by omega)
  rw [e2]
  simp only [Int.zero_sub, IntKind.wrap_i64, wrap64]
def rnE (z : Bool) (ys : List Int) (i : Nat) (u : Nat) : Env := [(18, .c (.p (.tz z 1 (u8P ys) none))), (19, .c (.p (.int .i64 ys.length))), (20, .c (.p (.int .i64 i))), (3, .c (.p (.int .u64 u))), (0, .c (.ptr 0 0))]
theorem rnum_loop (r : RS) (hr : r.ok) (z : Bool) (Q : QX) (hn : rdU 0 0 r.xs = none → Q (.exit 0) [(0, .c (.ptr 0 0))] (hR r)) (hs : ∀ v rest, rdU 0 0 r.xs = some (v, rest) → Q .ret [(2, .c (.p (.int .i64 (unzz v))))] (hR ⟨false, rest, r.bad⟩)) :
    ∀ (rem i u : Nat), i + rem = min r.xs.length 10 → u < 18446744073709551616 → ((i ≤ 9 ∧ u < 128 ^ i ∧ rdU 0 0 r.xs = rdU i u (r.xs.drop i)) ∨ (i = 10 ∧ rdU 0 0 r.xs = none)) →
      XH Try.prog base lRn.1.n 1 (lRn.1.c.lp 0) (rnE z (r.xs.take 10) i u) (hR r) Q := by
  have hlen := hr.len
  have htl : (r.xs.take 10).length = min 10 r.xs.length := by simp
  intro rem
  induction rem with
  | zero =>
    intro i u hi hu hacc
    have hnone : rdU 0 0 r.xs = none := by
      rcases hacc with ⟨h9, _, h⟩ | ⟨_, h⟩
      · rw [h, List.drop_eq_nil_of_le (by omega)]; rfl
      · exact h
    refine M.round (M.go rfl ?_)
    refine M.cond rfl (fun hc => absurd hc (by rw [htl]; omega)) (fun hc => ?_)
    refine M.ren [(0, 0)] ?_ trivial rfl (by repeat' (first | exact True.intro | refine ⟨⟨_, _, rfl, rfl, Wk.rfl⟩, ?_⟩ | refine ⟨⟨_, _, accV_ren rfl, rfl, Wk.rfl⟩, ?_⟩ | refine ⟨⟨_, _, accV_ren rfl, rfl, Wk.acc0⟩, ?_⟩ | refine ⟨⟨_, _, rfl, rfl, Wk.uncap⟩, ?_⟩ | refine ⟨⟨_, _, rfl, rfl, Wk.nil⟩, ?_⟩)) (by repeat' (first | exact True.intro | refine ⟨⟨_, _, _, rfl, rfl, rfl, WkO.rfl⟩, ?_⟩ | refine HeapOK.acc rfl rfl ?_ | refine HeapOK.es rfl rfl ?_)) (e' := [(0, .c (.ptr 0 0))]) (h' := hR r)
    exact M.exit (M.go rfl (M.done (hn hnone)))
  | succ rem ih =>
    intro i u hi hu hacc
    have hil : i < r.xs.length := by omega
    rcases hacc with ⟨h9, hm, hd⟩ | ⟨h10, _⟩
    · have hx := hr.b.at i
      have hget : (r.xs.take 10).getD i 0 = r.xs.getD i 0 := by simp [List.getD, List.getElem?_take, show i < 10 by omega]
      have hua : (u8P (r.xs.take 10))[((i : Int)).toNat]? = some (.int .u8 (r.xs.getD i 0)) := by rw [Int.toNat_natCast, u8P_at _ i (by omega), hget]
      have hmore := @rdU_more r.xs i u hil h9
      have hbad := @rdU_bad r.xs i u hil
      have hend := @rdU_end r.xs i u hil h9
      obtain ⟨x, hxe⟩ : ∃ x, x = r.xs.getD i 0 := ⟨_, rfl⟩
      rw [← hxe] at hx hua hmore hbad hend
      obtain ⟨hx0, hx1⟩ := hx
      have hp9 := pow_le9 h9
      have hw7 : IntKind.i64.wrap (7 * (i : Int)) = ((7 * i : Nat) : Int) := by rw [wr64 (by omega) (by omega)]; push_cast; rfl
      have hwi : IntKind.i64.wrap ((i : Int) + 1) = ((i + 1 : Nat) : Int) := by rw [wr64 (by omega) (by omega)]; push_cast; rfl
      have hb64 : min (((7 * i : Nat) : Int)).toNat IntKind.u64.bits = 7 * i := by
        rw [Int.toNat_natCast, show IntKind.u64.bits = 64 from rfl]; omega
      refine M.round (M.go rfl ?_)
      refine M.cond rfl (fun hc => ?_) (fun hc => absurd (by rw [htl]; omega) hc)
      refine M.go rfl ?_
      refine M.op trivial (SOp.ia rfl rfl (by omega) hua) ?_
      refine M.op trivial (SOp.ld1e rfl hua rfl rfl rfl) ?_
      refine M.go rfl ?_
      rw [hw7]
      refine M.op trivial (SOp.shl rfl rfl (by omega)) ?_
      rw [hb64]
      obtain ⟨U, hor, hU⟩ := bits_u64_range .or (u : Int) (IntKind.u64.wrap (IntKind.u64.wrap (bits .and .u8 x 127) * 2 ^ (7 * i)))
      have hstep : x.toNat % 128 * 128 ^ i < 18446744073709551616 → U = u + x.toNat % 128 * 128 ^ i := by
        intro h
        have := or_step hm hx0 hx1 h hu
        rw [hor] at this
        omega
      refine M.go rfl ?_
      rw [hor]
      refine M.cond rfl (fun hbig => ?_) (fun hsm => ?_)
      · refine M.exit (M.go rfl ?_)
        rw [hwi]
        refine M.again (XH.ren [(0, 0)] (ih (i + 1) U (by omega) hU ?_) rfl (by repeat' (first | exact True.intro | refine ⟨⟨_, _, rfl, rfl, Wk.rfl⟩, ?_⟩ | refine ⟨⟨_, _, accV_ren rfl, rfl, Wk.rfl⟩, ?_⟩ | refine ⟨⟨_, _, accV_ren rfl, rfl, Wk.acc0⟩, ?_⟩ | refine ⟨⟨_, _, rfl, rfl, Wk.uncap⟩, ?_⟩ | refine ⟨⟨_, _, rfl, rfl, Wk.nil⟩, ?_⟩)) (by repeat' (first | exact True.intro | refine ⟨⟨_, _, _, rfl, rfl, rfl, WkO.rfl⟩, ?_⟩ | refine HeapOK.acc rfl rfl ?_ | refine HeapOK.es rfl rfl ?_)))
        by_cases h8 : i ≤ 8
        · have hp8 := pow_le8 h8
          have h2 : x.toNat % 128 * 128 ^ i ≤ 127 * 128 ^ i := Nat.mul_le_mul_right _ (by omega)
          rw [hstep (by omega)]
          exact .inl ⟨by omega, add_lt hm (by omega), hd.trans (hmore hbig)⟩
        · exact .inr ⟨by omega, hd.trans ((hmore hbig).trans (rdU_10 _ _ _ (by omega)))⟩
      · have rej : (0 < i ∧ x = 0) ∨ (i = 9 ∧ 1 < x) → rdU 0 0 r.xs = none := fun h => hd.trans (hbad hsm h)
        have acc : ¬ ((0 < i ∧ x = 0) ∨ (i = 9 ∧ 1 < x)) → rdU 0 0 r.xs = some (U, r.xs.drop (i + 1)) := fun h => by
          have hlt : x.toNat % 128 * 128 ^ i < 18446744073709551616 := by
            by_cases h8 : i ≤ 8
            · have hp8 := pow_le8 h8
              have h2 : x.toNat % 128 * 128 ^ i ≤ 127 * 128 ^ i := Nat.mul_le_mul_right _ (by omega)
              omega
            · obtain rfl : i = 9 := by omega
              have : x ≤ 1 := by omega
              have h2 : x.toNat % 128 * 128 ^ 9 ≤ 1 * 128 ^ 9 := Nat.mul_le_mul_right _ (by omega)
              omega
          rw [hstep hlt, hd, hend hsm h, show x.toNat % 128 = x.toNat by omega]
        have hsl : ((u8P r.xs).drop (i + 1)).take ((u8P r.xs).length - (i + 1)) = u8P (r.xs.drop (i + 1)) := by rw [u8P_drop, List.take_of_length_le (by rw [u8P_len, u8P_len]; simp)]
        have hzf : (r.z && (u8P r.xs).isEmpty) = false := by
          have : (u8P r.xs).isEmpty = false := by rw [List.isEmpty_eq_false_iff]; intro h; have := congrArg List.length h; rw [u8P_len] at this; simp only [List.length_nil] at this; omega
          rw [this, Bool.and_false]
        refine M.go rfl ?_
        refine M.dec rfl (fun h1 => ?_) (fun h1 => ?_)
        · refine M.go rfl ?_
          refine M.dec rfl (fun h2 => ?_) (fun h2 => ?_)
          · refine M.go rfl ?_
            refine M.ren [(0, 0)] ?_ trivial rfl (by repeat' (first | exact True.intro | refine ⟨⟨_, _, rfl, rfl, Wk.rfl⟩, ?_⟩ | refine ⟨⟨_, _, accV_ren rfl, rfl, Wk.rfl⟩, ?_⟩ | refine ⟨⟨_, _, accV_ren rfl, rfl, Wk.acc0⟩, ?_⟩ | refine ⟨⟨_, _, rfl, rfl, Wk.uncap⟩, ?_⟩ | refine ⟨⟨_, _, rfl, rfl, Wk.nil⟩, ?_⟩)) (by repeat' (first | exact True.intro | refine ⟨⟨_, _, _, rfl, rfl, rfl, WkO.rfl⟩, ?_⟩ | refine HeapOK.acc rfl rfl ?_ | refine HeapOK.es rfl rfl ?_)) (e' := [(0, .c (.ptr 0 0))]) (h' := hR r)
            exact M.exit (M.go rfl (M.done (hn (rej (.inl ⟨by omega, h2⟩)))))
          · refine M.go rfl ?_
            refine M.dec rfl (fun h3 => ?_) (fun h3 => ?_)
            · refine M.go rfl ?_
              refine M.cond rfl (fun h4 => ?_) (fun h4 => ?_)
              · refine M.go rfl ?_
                refine M.ren [(0, 0)] ?_ trivial rfl (by repeat' (first | exact True.intro | refine ⟨⟨_, _, rfl, rfl, Wk.rfl⟩, ?_⟩ | refine ⟨⟨_, _, accV_ren rfl, rfl, Wk.rfl⟩, ?_⟩ | refine ⟨⟨_, _, accV_ren rfl, rfl, Wk.acc0⟩, ?_⟩ | refine ⟨⟨_, _, rfl, rfl, Wk.uncap⟩, ?_⟩ | refine ⟨⟨_, _, rfl, rfl, Wk.nil⟩, ?_⟩)) (by repeat' (first | exact True.intro | refine ⟨⟨_, _, _, rfl, rfl, rfl, WkO.rfl⟩, ?_⟩ | refine HeapOK.acc rfl rfl ?_ | refine HeapOK.es rfl rfl ?_)) (e' := [(0, .c (.ptr 0 0))]) (h' := hR r)
                exact M.exit (M.go rfl (M.done (hn (rej (.inr ⟨by omega, h4⟩)))))
              · have ha := acc (by omega)
                refine M.go rfl ?_
                rw [hwi]
                refine M.op trivial (SOp.sl (l := i + 1) rfl ⟨_, _, rfl, by omega, by omega⟩ rfl (by rw [u8P_len]; omega) (Nat.le_refl _)) ?_
                rw [hsl, hzf]
                refine M.go rfl ?_
                refine M.op trivial (SOp.shr rfl rfl (by omega)) ?_
                refine M.go rfl ?_
                rw [unzz_bits U hU]
                refine M.ren [(0, 0)] ?_ trivial rfl (by repeat' (first | exact True.intro | refine ⟨⟨_, _, rfl, rfl, Wk.rfl⟩, ?_⟩ | refine ⟨⟨_, _, accV_ren rfl, rfl, Wk.rfl⟩, ?_⟩ | refine ⟨⟨_, _, accV_ren rfl, rfl, Wk.acc0⟩, ?_⟩ | refine ⟨⟨_, _, rfl, rfl, Wk.uncap⟩, ?_⟩ | refine ⟨⟨_, _, rfl, rfl, Wk.nil⟩, ?_⟩)) (by repeat' (first | exact True.intro | refine ⟨⟨_, _, _, rfl, rfl, rfl, WkO.rfl⟩, ?_⟩ | refine HeapOK.acc rfl rfl ?_ | refine HeapOK.es rfl rfl ?_)) (e' := [(2, .c (.p (.int .i64 (unzz U))))]) (h' := hR ⟨false, r.xs.drop (i + 1), r.bad⟩)
                exact M.ret (M.go rfl (M.done (hs U _ ha)))
            · have ha := acc (by omega)
              refine M.go rfl ?_
              rw [hwi]
              refine M.op trivial (SOp.sl (l := i + 1) rfl ⟨_, _, rfl, by omega, by omega⟩ rfl (by rw [u8P_len]; omega) (Nat.le_refl _)) ?_
              rw [hsl, hzf]
              refine M.go rfl ?_
              refine M.op trivial (SOp.shr rfl rfl (by omega)) ?_
              refine M.go rfl ?_
              rw [unzz_bits U hU]
              refine M.ren [(0, 0)] ?_ trivial rfl (by repeat' (first | exact True.intro | refine ⟨⟨_, _, rfl, rfl, Wk.rfl⟩, ?_⟩ | refine ⟨⟨_, _, accV_ren rfl, rfl, Wk.rfl⟩, ?_⟩ | refine ⟨⟨_, _, accV_ren rfl, rfl, Wk.acc0⟩, ?_⟩ | refine ⟨⟨_, _, rfl, rfl, Wk.uncap⟩, ?_⟩ | refine ⟨⟨_, _, rfl, rfl, Wk.nil⟩, ?_⟩)) (by repeat' (first | exact True.intro | refine ⟨⟨_, _, _, rfl, rfl, rfl, WkO.rfl⟩, ?_⟩ | refine HeapOK.acc rfl rfl ?_ | refine HeapOK.es rfl rfl ?_)) (e' := [(2, .c (.p (.int .i64 (unzz U))))]) (h' := hR ⟨false, r.xs.drop (i + 1), r.bad⟩)
              exact M.ret (M.go rfl (M.done (hs U _ ha)))
        · refine M.go rfl ?_
          refine M.dec rfl (fun h3 => absurd h3 (by omega)) (fun h3 => ?_)
          have ha := acc (by omega)
          refine M.go rfl ?_
          rw [hwi]
          refine M.op trivial (SOp.sl (l := i + 1) rfl ⟨_, _, rfl, by omega, by omega⟩ rfl (by rw [u8P_len]; omega) (Nat.le_refl _)) ?_
          rw [hsl, hzf]
          refine M.go rfl ?_
          refine M.op trivial (SOp.shr rfl rfl (by omega)) ?_
          refine M.go rfl ?_
          rw [unzz_bits U hU]
          refine M.ren [(0, 0)] ?_ trivial rfl (by repeat' (first | exact True.intro | refine ⟨⟨_, _, rfl, rfl, Wk.rfl⟩, ?_⟩ | refine ⟨⟨_, _, accV_ren rfl, rfl, Wk.rfl⟩, ?_⟩ | refine ⟨⟨_, _, accV_ren rfl, rfl, Wk.acc0⟩, ?_⟩ | refine ⟨⟨_, _, rfl, rfl, Wk.uncap⟩, ?_⟩ | refine ⟨⟨_, _, rfl, rfl, Wk.nil⟩, ?_⟩)) (by repeat' (first | exact True.intro | refine ⟨⟨_, _, _, rfl, rfl, rfl, WkO.rfl⟩, ?_⟩ | refine HeapOK.acc rfl rfl ?_ | refine HeapOK.es rfl rfl ?_)) (e' := [(2, .c (.p (.int .i64 (unzz U))))]) (h' := hR ⟨false, r.xs.drop (i + 1), r.bad⟩)
          exact M.ret (M.go rfl (M.done (hs U _ ha)))
    · omega
theorem rnum_lt : ∀ (xs : List Int) (i u : Nat) {v : Nat} {r : List Int}, rdU i u xs = some (v, r) → True := fun _ _ _ _ _ _ => trivial
theorem rnum_spec (r : RS) (hr : r.ok) : CallS Try.prog base 87 [.c (.ptr 0 0)] (hR r) (.c (.p (.int .i64 r.num.1))) (hR r.num.2) := by
  have hlen := hr.len
  refine CallS.of noNG lRn.2 rfl (M.start (M.go rfl ?_))
  refine M.regD (MD.go rfl ?_)
  rw [u8P_len, minI_eq]
  refine MD.op trivial (SOp.sl (l := 0) (r := min r.xs.length 10) rfl rfl ⟨_, _, rfl, by omega, by omega⟩ (by omega) (by rw [u8P_len]; omega)) (MD.go rfl (MD.nil mixed (Fnl.nodup rfl) (M.go rfl ?_)))
  have hys : ((u8P r.xs).drop 0).take (min r.xs.length 10 - 0) = u8P (r.xs.take 10) := by
    rw [List.drop_zero, u8P_take]
    congr 1
    rcases Nat.le_total r.xs.length 10 with h | h
    · rw [Nat.min_eq_left h, Nat.sub_zero, List.take_of_length_le h, List.take_of_length_le (Nat.le_refl _)]
    · rw [Nat.min_eq_right h]
  rw [hys, u8P_len]
  refine M.loop (XH.ren [(0, 0)] (rnum_loop r hr _ _ (fun hn => ?_) (fun v rest hs => ?_) (min r.xs.length 10) 0 0 (by omega) (by omega) (.inl ⟨by omega, by simp, by simp⟩)) rfl (by repeat' (first | exact True.intro | refine ⟨⟨_, _, rfl, rfl, Wk.rfl⟩, ?_⟩ | refine ⟨⟨_, _, accV_ren rfl, rfl, Wk.rfl⟩, ?_⟩ | refine ⟨⟨_, _, accV_ren rfl, rfl, Wk.acc0⟩, ?_⟩ | refine ⟨⟨_, _, rfl, rfl, Wk.uncap⟩, ?_⟩ | refine ⟨⟨_, _, rfl, rfl, Wk.nil⟩, ?_⟩)) (by repeat' (first | exact True.intro | refine ⟨⟨_, _, _, rfl, rfl, rfl, WkO.rfl⟩, ?_⟩ | refine HeapOK.acc rfl rfl ?_ | refine HeapOK.es rfl rfl ?_)))
  · have he : r.num = (0, RS.fail) := by simp [RS.num, rnum, hn]
    rw [he]
    refine M.q (M.go rfl ?_)
    refine M.use (by first | exact True.intro | exact rfl) (rfail_spec r) [(0, 0)] rfl rfl rfl (by repeat' (first | exact True.intro | refine ⟨⟨_, _, _, rfl, rfl, rfl, WkO.rfl⟩, ?_⟩ | refine HeapOK.acc rfl rfl ?_ | refine HeapOK.es rfl rfl ?_)) rfl rfl ?_
    refine M.go rfl ?_
    exact M.ret (M.go rfl (M.done (finQ.ret [(0, 0)] rfl rfl rfl (by first | exact Wk.rfl | exact Wk.uncap | exact Wk.nil | exact Wk.b1 rfl | exact Wk.t2 Wk.rfl (Wk.b1 rfl)) (by repeat' (first | exact True.intro | refine ⟨⟨_, _, _, rfl, rfl, rfl, WkO.rfl⟩, ?_⟩ | refine HeapOK.acc rfl rfl ?_ | refine HeapOK.es rfl rfl ?_)))))
  · have he : r.num = (unzz v, ⟨false, rest, r.bad⟩) := by simp [RS.num, rnum, hs]
    rw [he]
    refine M.q (M.go rfl ?_)
    exact M.done (finQ.ret [(0, 0)] rfl rfl rfl Wk.rfl (by repeat' (first | exact True.intro | refine ⟨⟨_, _, _, rfl, rfl, rfl, WkO.rfl⟩, ?_⟩ | refine HeapOK.acc rfl rfl ?_ | refine HeapOK.es rfl rfl ?_)))
theorem RS.ok.num {r : RS} (hr : r.ok) : r.num.2.ok := by
  unfold RS.num
  split
  · rename_i n rest h
    obtain ⟨h1, h2, h3⟩ := rnum_inv hr.b h
    have := hr.len
    rw [h1] at this
    exact ⟨by simp at this; simp only; omega, h3, fun hb => by rw [hr.e hb] at h; simp [rnum, rdU] at h, fun hb => by rw [hr.e hb] at h; simp [rnum, rdU] at h⟩
  · exact RS.fail_ok
theorem RS.num_I64 {r : RS} (hr : r.ok) : InI64 r.num.1 := by
  unfold RS.num
  split
  · rename_i n rest h; exact (rnum_inv hr.b h).2.1
  · exact ⟨by decide, by decide⟩
/-! Text. -/
noncomputable def lRt : {F : LF // lowerF Try.prog 88 = some F} := ⟨_, rfl⟩
def RS.text (r : RS) : (Bool × List Int) × RS :=
  if r.num.2.bad = true then ((true, []), r.num.2)
  else if r.num.1 < 0 ∨ (r.num.2.xs.length : Int) < r.num.1 then ((true, []), RS.fail)
  else ((r.num.2.z && r.num.2.xs.isEmpty, r.num.2.xs.take r.num.1.toNat), ⟨r.num.2.z && r.num.2.xs.isEmpty, r.num.2.xs.drop r.num.1.toNat, r.num.2.bad⟩)
theorem u8P_emp (l : List Int) : (u8P l).isEmpty = l.isEmpty := by cases l <;> rfl
theorem rtext_spec (r : RS) (hr : r.ok) : CallS Try.prog base 88 [.c (.ptr 0 0)] (hR r) (.c (.p (.tz r.text.1.1 1 (u8P r.text.1.2) none))) (hR r.text.2) := by
  have hr2 := hr.num
  have hlen := hr2.len
  refine CallS.of noNG lRt.2 rfl (M.start (M.go rfl ?_))
  refine M.use (by first | exact True.intro | exact rfl) (rnum_spec r hr) [(0, 0)] rfl rfl rfl (by repeat' (first | exact True.intro | refine ⟨⟨_, _, _, rfl, rfl, rfl, WkO.rfl⟩, ?_⟩ | refine HeapOK.acc rfl rfl ?_ | refine HeapOK.es rfl rfl ?_)) rfl rfl ?_
  refine M.go rfl ?_
  refine M.use (by first | exact True.intro | exact rfl) (rok_spec r.num.2) [(0, 0)] rfl rfl rfl (by repeat' (first | exact True.intro | refine ⟨⟨_, _, _, rfl, rfl, rfl, WkO.rfl⟩, ?_⟩ | refine HeapOK.acc rfl rfl ?_ | refine HeapOK.es rfl rfl ?_)) rfl rfl ?_
  rw [RS.text]
  refine M.go rfl ?_
  refine M.condB rfl (fun h => ?_) (fun h => ?_)
  · rw [if_pos (by simpa using h)]
    refine M.go rfl ?_
    exact M.ret (M.go rfl (M.done (finQ.ret [(0, 0)] rfl rfl rfl Wk.nil (by repeat' (first | exact True.intro | refine ⟨⟨_, _, _, rfl, rfl, rfl, WkO.rfl⟩, ?_⟩ | refine HeapOK.acc rfl rfl ?_ | refine HeapOK.es rfl rfl ?_)))))
  · rw [if_neg (by simpa using h)]
    refine M.go rfl ?_
    refine M.dec rfl (fun h1 => ?_) (fun h1 => ?_)
    · rw [if_pos (.inl h1)]
      refine M.go rfl ?_
      refine M.use (by first | exact True.intro | exact rfl) (rfail_spec r.num.2) [(0, 0)] rfl rfl rfl (by repeat' (first | exact True.intro | refine ⟨⟨_, _, _, rfl, rfl, rfl, WkO.rfl⟩, ?_⟩ | refine HeapOK.acc rfl rfl ?_ | refine HeapOK.es rfl rfl ?_)) rfl rfl ?_
      refine M.go rfl ?_
      exact M.ret (M.go rfl (M.done (finQ.ret [(0, 0)] rfl rfl rfl Wk.nil (by repeat' (first | exact True.intro | refine ⟨⟨_, _, _, rfl, rfl, rfl, WkO.rfl⟩, ?_⟩ | refine HeapOK.acc rfl rfl ?_ | refine HeapOK.es rfl rfl ?_)))))
    · refine M.go rfl ?_
      rw [u8P_len]
      refine M.cond rfl (fun h2 => ?_) (fun h2 => ?_)
      · rw [if_pos (.inr h2)]
        refine M.go rfl ?_
        refine M.use (by first | exact True.intro | exact rfl) (rfail_spec r.num.2) [(0, 0)] rfl rfl rfl (by repeat' (first | exact True.intro | refine ⟨⟨_, _, _, rfl, rfl, rfl, WkO.rfl⟩, ?_⟩ | refine HeapOK.acc rfl rfl ?_ | refine HeapOK.es rfl rfl ?_)) rfl rfl ?_
        refine M.go rfl ?_
        exact M.ret (M.go rfl (M.done (finQ.ret [(0, 0)] rfl rfl rfl Wk.nil (by repeat' (first | exact True.intro | refine ⟨⟨_, _, _, rfl, rfl, rfl, WkO.rfl⟩, ?_⟩ | refine HeapOK.acc rfl rfl ?_ | refine HeapOK.es rfl rfl ?_)))))
      · rw [if_neg (by omega)]
        refine M.go rfl ?_
        refine M.op trivial (SOp.sl (l := 0) (r := r.num.1.toNat) rfl rfl ⟨_, _, rfl, by omega, rfl⟩ (by omega) (by rw [u8P_len]; omega)) ?_
        have e1 : ((u8P r.num.2.xs).drop 0).take (r.num.1.toNat - 0) = u8P (r.num.2.xs.take r.num.1.toNat) := by rw [List.drop_zero, Nat.sub_zero, u8P_take]
        rw [e1, u8P_emp]
        refine M.go rfl ?_
        refine M.use0 trivial (bcl_spec _ (u8P (r.num.2.xs.take r.num.1.toNat)) _ (by rw [u8P_len]; simp; omega)) rfl rfl rfl ?_
        refine M.go rfl ?_
        refine M.op trivial (SOp.sl (l := r.num.1.toNat) rfl ⟨_, _, rfl, by omega, rfl⟩ rfl (by rw [u8P_len]; omega) (Nat.le_refl _)) ?_
        have e2 : ((u8P r.num.2.xs).drop r.num.1.toNat).take ((u8P r.num.2.xs).length - r.num.1.toNat) = u8P (r.num.2.xs.drop r.num.1.toNat) := by rw [u8P_drop, List.take_of_length_le (by rw [u8P_len, u8P_len]; simp)]
        rw [e2, u8P_emp]
        refine M.go rfl ?_
        exact M.ret (M.go rfl (M.done (finQ.ret [(0, 0)] rfl rfl rfl (by first | exact Wk.rfl | exact Wk.uncap | exact Wk.nil | exact Wk.b1 rfl | exact Wk.t2 Wk.rfl (Wk.b1 rfl)) (by repeat' (first | exact True.intro | refine ⟨⟨_, _, _, rfl, rfl, rfl, WkO.rfl⟩, ?_⟩ | refine HeapOK.acc rfl rfl ?_ | refine HeapOK.es rfl rfl ?_)))))
theorem RS.text_eq (r : RS) (hr : r.ok) : r.text.1.2 = rT r.xs ∧ r.text.2.xs = rTRest r.xs ∧ r.text.2.bad = rTBad r.xs r.bad := by
  unfold RS.text RS.num rT rTRest rTBad rtext
  cases h : rnum r.xs with
  | none => simp [RS.fail]
  | some p =>
    obtain ⟨n, rest⟩ := p
    simp only
    by_cases hb : r.bad = true
    · rw [hr.e hb] at h
      simp [rnum, rdU] at h
    · rw [if_neg hb]
      by_cases h1 : 0 ≤ n ∧ n ≤ rest.length
      · rw [if_neg (by omega), if_pos h1]
        simp
      · rw [if_pos (by omega), if_neg h1]
        simp [RS.fail]
theorem RS.ok.text {r : RS} (hr : r.ok) : r.text.2.ok := by
  have h2 := hr.num
  unfold RS.text
  split
  · exact h2
  · rename_i hb
    split
    · exact RS.fail_ok
    · exact ⟨by have := h2.len; simp; omega, h2.b.drop _, fun h => absurd h hb, fun h => absurd h hb⟩
theorem RS.text_b {r : RS} (hr : r.ok) : r.text.1.2.length ≤ 1000000000000 ∧ Bytes r.text.1.2 := by
  have h2 := hr.num
  unfold RS.text
  split
  · exact ⟨by simp, Bytes.nil⟩
  · split
    · exact ⟨by simp, Bytes.nil⟩
    · exact ⟨by have := h2.len; simp; omega, h2.b.take _⟩
/-! Flag. -/
noncomputable def lRg : {F : LF // lowerF Try.prog 114 = some F} := ⟨_, rfl⟩
def RS.flag (r : RS) : Bool × RS := match rflag r.xs with
  | some (f, rest) => (f, ⟨false, rest, r.bad⟩)
  | none => (false, RS.fail)
theorem RS.flag_eq (r : RS) : r.flag.1 = rF r.xs ∧ r.flag.2.xs = rFRest r.xs ∧ r.flag.2.bad = rFBad r.xs r.bad := by
  unfold RS.flag rF rFRest rFBad
  split <;> simp [RS.fail, *]
theorem RS.ok.flag {r : RS} (hr : r.ok) : r.flag.2.ok := by
  unfold RS.flag
  split
  · rename_i n rest h
    obtain ⟨h1, h2⟩ := rflag_inv hr.b h
    have := hr.len
    rw [h1] at this
    exact ⟨by simp [flagB] at this; simp only; omega, h2, fun hb => by rw [hr.e hb] at h; simp [rflag] at h, fun hb => by rw [hr.e hb] at h; simp [rflag] at h⟩
  · exact RS.fail_ok
theorem rflag_spec (r : RS) (hr : r.ok) : CallS Try.prog base 114 [.c (.ptr 0 0)] (hR r) (.c (.p (.bs r.flag.1))) (hR r.flag.2) := by
  have hlen := hr.len
  refine CallS.of noNG lRg.2 rfl (M.start (M.go rfl ?_))
  rw [u8P_len]
  refine M.dec rfl (fun h1 => ?_) (fun h1 => ?_)
  · have he : r.flag = (false, RS.fail) := by
      have : r.xs = [] := List.eq_nil_of_length_eq_zero (by omega)
      simp [RS.flag, rflag, this]
    rw [he]
    refine M.go rfl ?_
    refine M.use (by first | exact True.intro | exact rfl) (rfail_spec r) [(0, 0)] rfl rfl rfl (by repeat' (first | exact True.intro | refine ⟨⟨_, _, _, rfl, rfl, rfl, WkO.rfl⟩, ?_⟩ | refine HeapOK.acc rfl rfl ?_ | refine HeapOK.es rfl rfl ?_)) rfl rfl ?_
    refine M.go rfl ?_
    exact M.ret (M.go rfl (M.done (finQ.ret [(0, 0)] rfl rfl rfl (by first | exact Wk.rfl | exact Wk.uncap | exact Wk.nil | exact Wk.b1 rfl | exact Wk.t2 Wk.rfl (Wk.b1 rfl)) (by repeat' (first | exact True.intro | refine ⟨⟨_, _, _, rfl, rfl, rfl, WkO.rfl⟩, ?_⟩ | refine HeapOK.acc rfl rfl ?_ | refine HeapOK.es rfl rfl ?_)))))
  · obtain ⟨x, rest, hx⟩ : ∃ x rest, r.xs = x :: rest := by
      cases h : r.xs with
      | nil => rw [h] at h1; simp at h1
      | cons x rest => exact ⟨_, _, rfl⟩
    have hb := hr.b x (by rw [hx]; simp)
    have hu : (u8P r.xs)[(0 : Int).toNat]? = some (.int .u8 x) := by rw [hx]; rfl
    refine M.go rfl ?_
    refine M.op rfl (SOp.ia rfl rfl (by omega) hu) ?_
    refine M.op rfl (SOp.ld1e rfl hu rfl rfl rfl) ?_
    refine M.go rfl ?_
    refine M.cond rfl (fun h2 => ?_) (fun h2 => ?_)
    · have he : r.flag = (false, RS.fail) := by simp [RS.flag, rflag, hx, show ¬ x ≤ 1 by omega]
      rw [he]
      refine M.go rfl ?_
      refine M.use (by first | exact True.intro | exact rfl) (rfail_spec r) [(0, 0)] rfl rfl rfl (by repeat' (first | exact True.intro | refine ⟨⟨_, _, _, rfl, rfl, rfl, WkO.rfl⟩, ?_⟩ | refine HeapOK.acc rfl rfl ?_ | refine HeapOK.es rfl rfl ?_)) rfl rfl ?_
      refine M.go rfl ?_
      exact M.ret (M.go rfl (M.done (finQ.ret [(0, 0)] rfl rfl rfl (by first | exact Wk.rfl | exact Wk.uncap | exact Wk.nil | exact Wk.b1 rfl | exact Wk.t2 Wk.rfl (Wk.b1 rfl)) (by repeat' (first | exact True.intro | refine ⟨⟨_, _, _, rfl, rfl, rfl, WkO.rfl⟩, ?_⟩ | refine HeapOK.acc rfl rfl ?_ | refine HeapOK.es rfl rfl ?_)))))
    · have he : r.flag = (decide (x = 1), ⟨false, rest, r.bad⟩) := by simp [RS.flag, rflag, hx, show x ≤ 1 by omega]
      rw [he]
      refine M.go rfl ?_
      refine M.op trivial (SOp.ia rfl rfl (by omega) hu) ?_
      refine M.op trivial (SOp.ld1e rfl hu rfl rfl rfl) ?_
      refine M.go rfl ?_
      refine M.op trivial (SOp.sl (l := 1) rfl ⟨_, _, rfl, by omega, rfl⟩ rfl (by rw [u8P_len, hx]; simp) (Nat.le_refl _)) ?_
      have e2 : ((u8P r.xs).drop 1).take ((u8P r.xs).length - 1) = u8P rest := by rw [hx]; simp [u8P]; exact List.take_of_length_le (by simp)
      have e3 : (r.z && (u8P r.xs).isEmpty) = false := by rw [hx]; simp [u8P]
      rw [e2, e3]
      refine M.go rfl ?_
      exact M.ret (M.go rfl (M.done (finQ.ret [(0, 0)] rfl rfl rfl (by first | exact Wk.rfl | exact Wk.uncap | exact Wk.nil | exact Wk.b1 rfl | exact Wk.t2 Wk.rfl (Wk.b1 rfl)) (by repeat' (first | exact True.intro | refine ⟨⟨_, _, _, rfl, rfl, rfl, WkO.rfl⟩, ?_⟩ | refine HeapOK.acc rfl rfl ?_ | refine HeapOK.es rfl rfl ?_)))))
end Go.Proofs.Yteegdhfekemhmaa

namespace Go.Proofs.Yteegdhfekemhmaa
open Go.RowKit Sim Go Sym
set_option maxRecDepth 100000
set_option linter.unusedVariables false
set_option linter.unusedSimpArgs false
variable {base : Nat}
noncomputable def lWh : {F : LF // lowerF Try.prog 89 = some F} := ⟨_, rfl⟩
theorem swhole_spec (r : RS) : CallS Try.prog base 89 [.c (.ptr 0 0)] (hR r) (.c (.p (.bs (!r.bad && r.xs.isEmpty)))) (hR r) := by
  refine CallS.of noNG lWh.2 rfl (M.start (M.go rfl ?_))
  refine M.use (by first | exact True.intro | exact rfl) (rok_spec r) [(0, 0)] rfl rfl rfl (by repeat' (first | exact True.intro | refine ⟨⟨_, _, _, rfl, rfl, rfl, WkO.rfl⟩, ?_⟩ | refine HeapOK.acc rfl rfl ?_ | refine HeapOK.es rfl rfl ?_)) rfl rfl ?_
  refine M.go rfl ?_
  refine M.decB rfl (fun h => ?_) (fun h => ?_)
  · refine M.go rfl ?_
    refine M.use rfl (rleft_spec r) [(0, 0)] rfl rfl rfl (by repeat' (first | exact True.intro | refine ⟨⟨_, _, _, rfl, rfl, rfl, WkO.rfl⟩, ?_⟩ | refine HeapOK.acc rfl rfl ?_ | refine HeapOK.es rfl rfl ?_)) rfl rfl ?_
    refine M.go rfl ?_
    exact M.ret (M.go rfl (M.done (finQ.ret [(0, 0)] rfl rfl rfl (Wk.b2 (by rw [h, Bool.true_and]; cases r.xs <;> simp; omega)) (by repeat' (first | exact True.intro | refine ⟨⟨_, _, _, rfl, rfl, rfl, WkO.rfl⟩, ?_⟩ | refine HeapOK.acc rfl rfl ?_ | refine HeapOK.es rfl rfl ?_)))))
  · refine M.go rfl ?_
    exact M.ret (M.go rfl (M.done (finQ.ret [(0, 0)] rfl rfl rfl (Wk.b1 (by rw [h, Bool.false_and])) (by repeat' (first | exact True.intro | refine ⟨⟨_, _, _, rfl, rfl, rfl, WkO.rfl⟩, ?_⟩ | refine HeapOK.acc rfl rfl ?_ | refine HeapOK.es rfl rfl ?_)))))
/-! How many there are. -/
noncomputable def lCo : {F : LF // lowerF Try.prog 113 = some F} := ⟨_, rfl⟩
def RS.count (r : RS) : Int × RS := if r.num.1 < 0 ∨ (r.num.2.xs.length : Int) < r.num.1 then (0, RS.fail) else r.num
theorem co_loop (Q : QX) (hq : Q (.exit 0) [] (hR RS.fail)) : ∀ (m : Nat) (r : RS), r.ok → r.xs.length + (if r.bad then 0 else 1) = m → XH Try.prog base lCo.1.n 1 (lCo.1.c.lp 0) [(0, .c (.ptr 0 0))] (hR r) Q := by
  intro m
  induction m using Nat.strongRecOn with
  | ind m ih =>
    intro r hr hm
    refine M.round (M.go rfl ?_)
    refine M.use (by first | exact True.intro | exact rfl) (rok_spec r) [(0, 0)] rfl rfl rfl (by repeat' (first | exact True.intro | refine ⟨⟨_, _, _, rfl, rfl, rfl, WkO.rfl⟩, ?_⟩ | refine HeapOK.acc rfl rfl ?_ | refine HeapOK.es rfl rfl ?_)) rfl rfl ?_
    refine M.go rfl ?_
    refine M.condB rfl (fun h => ?_) (fun h => ?_)
    · refine M.go rfl ?_
      refine M.use (by first | exact True.intro | exact rfl) (rflag_spec r hr) [(0, 0)] rfl rfl rfl (by repeat' (first | exact True.intro | refine ⟨⟨_, _, _, rfl, rfl, rfl, WkO.rfl⟩, ?_⟩ | refine HeapOK.acc rfl rfl ?_ | refine HeapOK.es rfl rfl ?_)) rfl rfl ?_
      refine M.go rfl ?_
      refine M.again (XH.ren [(0, 0)] (ih _ ?_ r.flag.2 hr.flag rfl) rfl (by repeat' (first | exact True.intro | refine ⟨⟨_, _, rfl, rfl, Wk.rfl⟩, ?_⟩ | refine ⟨⟨_, _, accV_ren rfl, rfl, Wk.rfl⟩, ?_⟩ | refine ⟨⟨_, _, accV_ren rfl, rfl, Wk.acc0⟩, ?_⟩ | refine ⟨⟨_, _, rfl, rfl, Wk.uncap⟩, ?_⟩ | refine ⟨⟨_, _, rfl, rfl, Wk.nil⟩, ?_⟩)) (by repeat' (first | exact True.intro | refine ⟨⟨_, _, _, rfl, rfl, rfl, WkO.rfl⟩, ?_⟩ | refine HeapOK.acc rfl rfl ?_ | refine HeapOK.es rfl rfl ?_)))
      have hb : r.bad = false := by simpa using h
      rw [← hm, hb]
      unfold RS.flag
      cases hf : rflag r.xs with
      | none => simp [RS.fail]
      | some p =>
        obtain ⟨f, rest⟩ := p
        obtain ⟨h1, h2⟩ := rflag_inv hr.b hf
        have := congrArg List.length h1
        simp [flagB] at this
        simp [hb]
        omega
    · have hb : r.bad = true := by simpa using h
      have hx := hr.e hb
      have hz := hr.y hb
      obtain ⟨z, xs, bad⟩ := r
      simp only at hb hx hz
      subst hb hx hz
      refine M.ren [(0, 0)] ?_ trivial rfl (by repeat' (first | exact True.intro | refine ⟨⟨_, _, rfl, rfl, Wk.rfl⟩, ?_⟩ | refine ⟨⟨_, _, accV_ren rfl, rfl, Wk.rfl⟩, ?_⟩ | refine ⟨⟨_, _, accV_ren rfl, rfl, Wk.acc0⟩, ?_⟩ | refine ⟨⟨_, _, rfl, rfl, Wk.uncap⟩, ?_⟩ | refine ⟨⟨_, _, rfl, rfl, Wk.nil⟩, ?_⟩)) (by repeat' (first | exact True.intro | refine ⟨⟨_, _, _, rfl, rfl, rfl, WkO.rfl⟩, ?_⟩ | refine HeapOK.acc rfl rfl ?_ | refine HeapOK.es rfl rfl ?_)) (e' := []) (h' := hR RS.fail)
      exact M.exit (M.go rfl (M.done hq))
theorem count_spec (r : RS) (hr : r.ok) : CallS Try.prog base 113 [.c (.ptr 0 0)] (hR r) (.c (.p (.int .i64 r.count.1))) (hR r.count.2) := by
  have h2 := hr.num
  refine CallS.of noNG lCo.2 rfl (M.start (M.go rfl ?_))
  refine M.use (by first | exact True.intro | exact rfl) (rnum_spec r hr) [(0, 0)] rfl rfl rfl (by repeat' (first | exact True.intro | refine ⟨⟨_, _, _, rfl, rfl, rfl, WkO.rfl⟩, ?_⟩ | refine HeapOK.acc rfl rfl ?_ | refine HeapOK.es rfl rfl ?_)) rfl rfl ?_
  refine M.go rfl ?_
  refine M.dec rfl (fun h1 => ?_) (fun h1 => ?_)
  · rw [RS.count, if_pos (.inl h1)]
    refine M.go rfl ?_
    refine M.use (by first | exact True.intro | exact rfl) (rtext_spec r.num.2 h2) [(0, 0)] rfl rfl rfl (by repeat' (first | exact True.intro | refine ⟨⟨_, _, _, rfl, rfl, rfl, WkO.rfl⟩, ?_⟩ | refine HeapOK.acc rfl rfl ?_ | refine HeapOK.es rfl rfl ?_)) rfl rfl ?_
    refine M.go rfl ?_
    refine M.loop (XH.ren [(0, 0)] (co_loop _ ?_ _ _ h2.text rfl) rfl (by repeat' (first | exact True.intro | refine ⟨⟨_, _, rfl, rfl, Wk.rfl⟩, ?_⟩ | refine ⟨⟨_, _, accV_ren rfl, rfl, Wk.rfl⟩, ?_⟩ | refine ⟨⟨_, _, accV_ren rfl, rfl, Wk.acc0⟩, ?_⟩ | refine ⟨⟨_, _, rfl, rfl, Wk.uncap⟩, ?_⟩ | refine ⟨⟨_, _, rfl, rfl, Wk.nil⟩, ?_⟩)) (by repeat' (first | exact True.intro | refine ⟨⟨_, _, _, rfl, rfl, rfl, WkO.rfl⟩, ?_⟩ | refine HeapOK.acc rfl rfl ?_ | refine HeapOK.es rfl rfl ?_)))
    refine M.q (M.go rfl ?_)
    exact M.ret (M.go rfl (M.done (finQ.ret [(0, 0)] rfl rfl rfl (by first | exact Wk.rfl | exact Wk.uncap | exact Wk.nil | exact Wk.b1 rfl | exact Wk.t2 Wk.rfl (Wk.b1 rfl)) (by repeat' (first | exact True.intro | refine ⟨⟨_, _, _, rfl, rfl, rfl, WkO.rfl⟩, ?_⟩ | refine HeapOK.acc rfl rfl ?_ | refine HeapOK.es rfl rfl ?_)))))
  · refine M.go rfl ?_
    refine M.use (by first | exact True.intro | exact rfl) (rleft_spec r.num.2) [(0, 0)] rfl rfl rfl (by repeat' (first | exact True.intro | refine ⟨⟨_, _, _, rfl, rfl, rfl, WkO.rfl⟩, ?_⟩ | refine HeapOK.acc rfl rfl ?_ | refine HeapOK.es rfl rfl ?_)) rfl rfl ?_
    refine M.go rfl ?_
    refine M.cond rfl (fun h3 => ?_) (fun h3 => ?_)
    · rw [RS.count, if_pos (.inr h3)]
      refine M.go rfl ?_
      refine M.use (by first | exact True.intro | exact rfl) (rtext_spec r.num.2 h2) [(0, 0)] rfl rfl rfl (by repeat' (first | exact True.intro | refine ⟨⟨_, _, _, rfl, rfl, rfl, WkO.rfl⟩, ?_⟩ | refine HeapOK.acc rfl rfl ?_ | refine HeapOK.es rfl rfl ?_)) rfl rfl ?_
      refine M.go rfl ?_
      refine M.loop (XH.ren [(0, 0)] (co_loop _ ?_ _ _ h2.text rfl) rfl (by repeat' (first | exact True.intro | refine ⟨⟨_, _, rfl, rfl, Wk.rfl⟩, ?_⟩ | refine ⟨⟨_, _, accV_ren rfl, rfl, Wk.rfl⟩, ?_⟩ | refine ⟨⟨_, _, accV_ren rfl, rfl, Wk.acc0⟩, ?_⟩ | refine ⟨⟨_, _, rfl, rfl, Wk.uncap⟩, ?_⟩ | refine ⟨⟨_, _, rfl, rfl, Wk.nil⟩, ?_⟩)) (by repeat' (first | exact True.intro | refine ⟨⟨_, _, _, rfl, rfl, rfl, WkO.rfl⟩, ?_⟩ | refine HeapOK.acc rfl rfl ?_ | refine HeapOK.es rfl rfl ?_)))
      refine M.q (M.go rfl ?_)
      exact M.ret (M.go rfl (M.done (finQ.ret [(0, 0)] rfl rfl rfl (by first | exact Wk.rfl | exact Wk.uncap | exact Wk.nil | exact Wk.b1 rfl | exact Wk.t2 Wk.rfl (Wk.b1 rfl)) (by repeat' (first | exact True.intro | refine ⟨⟨_, _, _, rfl, rfl, rfl, WkO.rfl⟩, ?_⟩ | refine HeapOK.acc rfl rfl ?_ | refine HeapOK.es rfl rfl ?_)))))
    · rw [RS.count, if_neg (by omega)]
      refine M.go rfl ?_
      exact M.ret (M.go rfl (M.done (finQ.ret [(0, 0)] rfl rfl rfl (by first | exact Wk.rfl | exact Wk.uncap | exact Wk.nil | exact Wk.b1 rfl | exact Wk.t2 Wk.rfl (Wk.b1 rfl)) (by repeat' (first | exact True.intro | refine ⟨⟨_, _, _, rfl, rfl, rfl, WkO.rfl⟩, ?_⟩ | refine HeapOK.acc rfl rfl ?_ | refine HeapOK.es rfl rfl ?_)))))
theorem RS.ok.count {r : RS} (hr : r.ok) : r.count.2.ok := by
  unfold RS.count
  split
  · exact RS.fail_ok
  · exact hr.num
theorem RS.count_le (r : RS) : 0 ≤ r.count.1 ∧ r.count.1 ≤ r.count.2.xs.length := by
  unfold RS.count
  split
  · simp [RS.fail]
  · omega
theorem RS.count_eq (r : RS) : r.count.1 = (cN r.xs : Nat) ∧ r.count.2.xs = cRest r.xs ∧ r.count.2.bad = cBad r.xs r.bad := by
  obtain ⟨e1, e2, e3⟩ := r.num_eq
  unfold RS.count
  by_cases h : COK r.xs
  · obtain ⟨c1, c2, c3⟩ := c_yes h
    rw [if_neg (by rw [e1, e2]; have := h.1; have := h.2; omega), c1, c2, c3]
    exact ⟨e1, e2, e3⟩
  · obtain ⟨c1, c2, c3⟩ := c_no h
    rw [if_pos (by rw [e1, e2]; unfold COK at h; omega), c1, c2, c3]
    exact ⟨rfl, rfl, rfl⟩
/-! Members. -/
noncomputable def lPc : {F : LF // lowerF Try.prog 99 = some F} := ⟨_, rfl⟩
theorem pc_loop (z : Bool) (c : Option Nat) (l : List Int) (hl : l.length ≤ 1000000) (hok : ∀ i ∈ l, InI64 i) (bs : List Int) (hne : bs ≠ []) (hb : bs.length ≤ 900000000000) (Q : QX) (hq : Q (.exit 0) [] (hW 2 (bs ++ numsB l))) :
    ∀ (rest pre : List Int), l = pre ++ rest → XH Try.prog base lPc.1.n 2 (lPc.1.c.lp 0) [(0, .c (.ptr 0 0)), (10, .c (.p (.tz z 1 (inP l) c))), (11, .c (.p (.int .i64 l.length))), (12, .c (.p (.int .i64 pre.length)))] (hW 2 (bs ++ numsB pre)) Q := by
  intro rest
  induction rest with
  | nil =>
    intro pre hp
    simp at hp
    subst hp
    refine M.round (M.go rfl ?_)
    refine M.cond rfl (fun hc => absurd hc (by omega)) (fun hc => ?_)
    refine M.ren [(0, 0), (1, 1), (2, 2)] ?_ trivial rfl (by repeat' (first | exact True.intro | refine ⟨⟨_, _, rfl, rfl, Wk.rfl⟩, ?_⟩ | refine ⟨⟨_, _, accV_ren rfl, rfl, Wk.rfl⟩, ?_⟩ | refine ⟨⟨_, _, accV_ren rfl, rfl, Wk.acc0⟩, ?_⟩ | refine ⟨⟨_, _, rfl, rfl, Wk.uncap⟩, ?_⟩ | refine ⟨⟨_, _, rfl, rfl, Wk.nil⟩, ?_⟩)) (by repeat' (first | exact True.intro | refine ⟨⟨_, _, _, rfl, rfl, rfl, WkO.rfl⟩, ?_⟩ | refine HeapOK.acc rfl rfl ?_ | refine HeapOK.es rfl rfl ?_)) (e' := []) (h' := hW 2 (bs ++ numsB l))
    exact M.exit (M.go rfl (M.done hq))
  | cons a rest ih =>
    intro pre hp
    have hlen : l.length = pre.length + (rest.length + 1) := by rw [hp]; simp
    have hu : (inP l)[((pre.length : Int)).toNat]? = some (.int .i64 a) := by rw [hp]; exact at_app _ _ _ _
    have hn := numsB_len pre (fun i hi => hok i (by rw [hp]; simp [hi]))
    have hw2 : IntKind.i64.wrap ((pre.length : Int) + 1) = ((pre ++ [a]).length : Int) := by rw [wr64 (by omega) (by omega)]; simp
    refine M.round (M.go rfl ?_)
    refine M.cond rfl (fun hc => ?_) (fun hc => absurd (by omega) hc)
    refine M.go rfl ?_
    refine M.op trivial (SOp.ia rfl rfl (by omega) hu) ?_
    refine M.op trivial (SOp.ld1e rfl hu rfl rfl rfl) ?_
    refine M.go rfl ?_
    refine M.use trivial (wnum_spec' (bs ++ numsB pre) a (by simp [hne]) (by simp; omega) (hok a (by rw [hp]; simp))) [(0, 0), (1, 2)] rfl rfl rfl (by repeat' (first | exact True.intro | refine ⟨⟨_, _, _, rfl, rfl, rfl, WkO.rfl⟩, ?_⟩ | refine HeapOK.acc rfl rfl ?_ | refine HeapOK.es rfl rfl ?_)) rfl rfl ?_
    refine M.go rfl ?_
    rw [hw2]
    have ih' := ih (pre ++ [a]) (by rw [hp]; simp)
    rw [show bs ++ numsB (pre ++ [a]) = bs ++ numsB pre ++ numB a by rw [numsB_snoc]; simp] at ih'
    exact M.again (XH.ren [(0, 0), (1, 1), (2, 3)] ih' rfl (by repeat' (first | exact True.intro | refine ⟨⟨_, _, rfl, rfl, Wk.rfl⟩, ?_⟩ | refine ⟨⟨_, _, accV_ren rfl, rfl, Wk.rfl⟩, ?_⟩ | refine ⟨⟨_, _, accV_ren rfl, rfl, Wk.acc0⟩, ?_⟩ | refine ⟨⟨_, _, rfl, rfl, Wk.uncap⟩, ?_⟩ | refine ⟨⟨_, _, rfl, rfl, Wk.nil⟩, ?_⟩)) (by repeat' (first | exact True.intro | refine ⟨⟨_, _, _, rfl, rfl, rfl, WkO.rfl⟩, ?_⟩ | refine HeapOK.acc rfl rfl ?_ | refine HeapOK.es rfl rfl ?_)))
theorem pc_spec (bs : List Int) (z : Bool) (c : Option Nat) (l : List Int) (hne : bs ≠ []) (hb : bs.length ≤ 800000000000) (hl : l.length ≤ 1000000) (hok : ∀ i ∈ l, InI64 i) : CallS Try.prog base 99 [.c (.ptr 0 0), .c (.p (.tz z 1 (inP l) c))] (hW 1 bs) (.tup []) (hW 2 (bs ++ confB l)) := by
  have hil : (inP l).length = l.length := by simp [inP]
  have hnl : (numB (l.length : Int)).length ≤ 10 := numB_len (by omega) (by omega)
  refine CallS.of noNG lPc.2 rfl (M.start (M.go rfl ?_))
  rw [hil]
  refine M.use trivial (wnum_spec' bs l.length hne (by omega) ⟨by omega, by omega⟩) [(0, 0), (1, 1)] rfl rfl rfl (by repeat' (first | exact True.intro | refine ⟨⟨_, _, _, rfl, rfl, rfl, WkO.rfl⟩, ?_⟩ | refine HeapOK.acc rfl rfl ?_ | refine HeapOK.es rfl rfl ?_)) rfl rfl ?_
  refine M.go rfl ?_
  rw [hil]
  have h1 := pc_loop (base := base) z c l hl hok (bs ++ numB l.length) (by simp [hne]) (by simp; omega)
  rw [show bs ++ confB l = bs ++ numB l.length ++ numsB l by simp [confB]]
  refine M.loop (XH.ren [(0, 0), (1, 1), (2, 2)] (h1 _ ?_ l [] rfl) rfl (by repeat' (first | exact True.intro | refine ⟨⟨_, _, rfl, rfl, Wk.rfl⟩, ?_⟩ | refine ⟨⟨_, _, accV_ren rfl, rfl, Wk.rfl⟩, ?_⟩ | refine ⟨⟨_, _, accV_ren rfl, rfl, Wk.acc0⟩, ?_⟩ | refine ⟨⟨_, _, rfl, rfl, Wk.uncap⟩, ?_⟩ | refine ⟨⟨_, _, rfl, rfl, Wk.nil⟩, ?_⟩)) ?_)
  · refine M.q (M.go rfl ?_)
    exact M.done (finQ.normal [(0, 0), (1, 1), (2, 2)] rfl rfl rfl Wk.rfl (by repeat' (first | exact True.intro | refine ⟨⟨_, _, _, rfl, rfl, rfl, WkO.rfl⟩, ?_⟩ | refine HeapOK.acc rfl rfl ?_ | refine HeapOK.es rfl rfl ?_)))
  · rw [show numsB [] = [] from rfl, List.append_nil]
    exact (by repeat' (first | exact True.intro | refine ⟨⟨_, _, _, rfl, rfl, rfl, WkO.rfl⟩, ?_⟩ | refine HeapOK.acc rfl rfl ?_ | refine HeapOK.es rfl rfl ?_))
noncomputable def lGc : {F : LF // lowerF Try.prog 100 = some F} := ⟨_, rfl⟩
def RS.nums : Nat → RS → List Int × RS
  | 0, r => ([], r)
  | j + 1, r => ((r.nums j).1 ++ [(r.nums j).2.num.1], (r.nums j).2.num.2)
theorem RS.nums_ok {r : RS} (hr : r.ok) : ∀ j, (r.nums j).2.ok
  | 0 => hr
  | j + 1 => (RS.nums_ok hr j).num
theorem RS.nums_len (r : RS) : ∀ j, (r.nums j).1.length = j
  | 0 => rfl
  | j + 1 => by simp [RS.nums, RS.nums_len r j]
theorem RS.nums_eq (r : RS) : ∀ j, (r.nums j).1 = nL j r.xs ∧ (r.nums j).2.xs = nR j r.xs ∧ (r.nums j).2.bad = nB j r.xs r.bad
  | 0 => ⟨rfl, rfl, rfl⟩
  | j + 1 => by
    obtain ⟨h1, h2, h3⟩ := RS.nums_eq r j
    obtain ⟨e1, e2, e3⟩ := (r.nums j).2.num_eq
    simp only [RS.nums, nL, nR, nB, h1, e1, e2, e3, h2, h3, and_self]
def hRL (r : RS) (l : List Int) : HS := ⟨[(1, accO 1 (inP l)), (0, some (.row [.p (.tz r.z 1 (u8P r.xs) none), .p (.bs r.bad)] true))], 2⟩
theorem gc_loop (r : RS) (hr : r.ok) (k : Nat) (hk : k ≤ 1000000000000) (Q : QX) (hq : Q (.exit 0) [(3, accV 1 1 (inP (r.nums k).1))] (hRL (r.nums k).2 (r.nums k).1)) :
    ∀ (rem j : Nat), j + rem = k → XH Try.prog base lGc.1.n 1 (lGc.1.c.lp 0) [(0, .c (.ptr 0 0)), (5, .c (.p (.int .i64 k))), (6, .c (.p (.int .i64 j))), (3, accV 1 1 (inP (r.nums j).1))] (hRL (r.nums j).2 (r.nums j).1) Q := by
  intro rem
  induction rem with
  | zero =>
    intro j hj
    obtain rfl : j = k := by omega
    refine M.round (M.go rfl ?_)
    refine M.cond rfl (fun hc => absurd hc (by omega)) (fun hc => ?_)
    refine M.ren [(0, 0), (1, 1)] ?_ trivial rfl (by repeat' (first | exact True.intro | refine ⟨⟨_, _, rfl, rfl, Wk.rfl⟩, ?_⟩ | refine ⟨⟨_, _, accV_ren rfl, rfl, Wk.rfl⟩, ?_⟩ | refine ⟨⟨_, _, accV_ren rfl, rfl, Wk.acc0⟩, ?_⟩ | refine ⟨⟨_, _, rfl, rfl, Wk.uncap⟩, ?_⟩ | refine ⟨⟨_, _, rfl, rfl, Wk.nil⟩, ?_⟩)) (by repeat' (first | exact True.intro | refine ⟨⟨_, _, _, rfl, rfl, rfl, WkO.rfl⟩, ?_⟩ | refine HeapOK.acc rfl rfl ?_ | refine HeapOK.es rfl rfl ?_)) (e' := [(3, accV 1 1 (inP (r.nums j).1))]) (h' := hRL (r.nums j).2 (r.nums j).1)
    exact M.exit (M.go rfl (M.done hq))
  | succ rem ih =>
    intro j hj
    have hw2 : IntKind.i64.wrap ((j : Int) + 1) = ((j + 1 : Nat) : Int) := by rw [wr64 (by omega) (by omega)]; simp
    have hln : (inP (r.nums j).1).length = j := by simp [inP, RS.nums_len]
    refine M.round (M.go rfl ?_)
    refine M.cond rfl (fun hc => ?_) (fun hc => absurd (by omega) hc)
    refine M.go rfl ?_
    refine M.use (by first | exact True.intro | exact rfl) (rnum_spec (r.nums j).2 (RS.nums_ok hr j)) [(0, 0)] rfl rfl rfl (by repeat' (first | exact True.intro | refine ⟨⟨_, _, _, rfl, rfl, rfl, WkO.rfl⟩, ?_⟩ | refine HeapOK.acc rfl rfl ?_ | refine HeapOK.es rfl rfl ?_)) rfl rfl ?_
    refine M.go rfl ?_
    refine M.acc trivial rfl rfl rfl (.own rfl rfl) (by simp) (by rw [hln]; simp; omega) ?_
    refine M.go rfl ?_
    rw [hw2]
    have ih' := ih (j + 1) (by omega)
    unfold hRL at ih'
    rw [show inP (r.nums (j + 1)).1 = inP (r.nums j).1 ++ [.int .i64 (r.nums j).2.num.1] by simp [RS.nums, inP], show (r.nums (j + 1)).2 = (r.nums j).2.num.2 from rfl] at ih'
    exact M.again (XH.ren [(0, 0), (1, 3)] ih' rfl (by repeat' (first | exact True.intro | refine ⟨⟨_, _, rfl, rfl, Wk.rfl⟩, ?_⟩ | refine ⟨⟨_, _, accV_ren rfl, rfl, Wk.rfl⟩, ?_⟩ | refine ⟨⟨_, _, accV_ren rfl, rfl, Wk.acc0⟩, ?_⟩ | refine ⟨⟨_, _, rfl, rfl, Wk.uncap⟩, ?_⟩ | refine ⟨⟨_, _, rfl, rfl, Wk.nil⟩, ?_⟩)) (by repeat' (first | exact True.intro | refine ⟨⟨_, _, _, rfl, rfl, rfl, WkO.rfl⟩, ?_⟩ | refine HeapOK.acc rfl rfl ?_ | refine HeapOK.es rfl rfl ?_)))
def RS.conf (r : RS) : List Int × RS := r.count.2.nums r.count.1.toNat
theorem gc_spec (r : RS) (hr : r.ok) : CallS Try.prog base 100 [.c (.ptr 0 0)] (hR r) (.c (.p (.tz true 1 (inP r.conf.1) none))) (hR r.conf.2) := by
  have hc := r.count_le
  have hl := hr.count.len
  obtain ⟨k, hk⟩ : ∃ k : Nat, r.count.1 = k := ⟨r.count.1.toNat, by omega⟩
  have hkk : r.conf = r.count.2.nums k := by rw [RS.conf, hk]; rfl
  rw [hkk]
  refine CallS.of noNG lGc.2 rfl (M.start (M.go rfl ?_))
  refine M.use (by first | exact True.intro | exact rfl) (count_spec r hr) [(0, 0)] rfl rfl rfl (by repeat' (first | exact True.intro | refine ⟨⟨_, _, _, rfl, rfl, rfl, WkO.rfl⟩, ?_⟩ | refine HeapOK.acc rfl rfl ?_ | refine HeapOK.es rfl rfl ?_)) rfl rfl ?_
  rw [hk]
  refine M.go rfl ?_
  refine M.loop (XH.ren [(0, 0), (1, 1)] (gc_loop r.count.2 hr.count k (by omega) _ ?_ k 0 (by omega)) rfl (by repeat' (first | exact True.intro | refine ⟨⟨_, _, rfl, rfl, Wk.rfl⟩, ?_⟩ | refine ⟨⟨_, _, accV_ren rfl, rfl, Wk.rfl⟩, ?_⟩ | refine ⟨⟨_, _, accV_ren rfl, rfl, Wk.acc0⟩, ?_⟩ | refine ⟨⟨_, _, rfl, rfl, Wk.uncap⟩, ?_⟩ | refine ⟨⟨_, _, rfl, rfl, Wk.nil⟩, ?_⟩)) (by repeat' (first | exact True.intro | refine ⟨⟨_, _, _, rfl, rfl, rfl, WkO.rfl⟩, ?_⟩ | refine HeapOK.acc rfl rfl ?_ | refine HeapOK.es rfl rfl ?_)))
  refine M.q (M.go rfl ?_)
  refine M.accF (i := 2) rfl rfl ?_
  exact M.ret (M.go rfl (M.done (finQ.ret [(0, 0)] rfl rfl rfl (by first | exact Wk.rfl | exact Wk.uncap | exact Wk.nil | exact Wk.b1 rfl | exact Wk.t2 Wk.rfl (Wk.b1 rfl)) (by repeat' (first | exact True.intro | refine ⟨⟨_, _, _, rfl, rfl, rfl, WkO.rfl⟩, ?_⟩ | refine HeapOK.acc rfl rfl ?_ | refine HeapOK.es rfl rfl ?_)))))
theorem RS.ok.conf {r : RS} (hr : r.ok) : r.conf.2.ok := RS.nums_ok hr.count _
theorem RS.conf_eq (r : RS) : r.conf.1 = nL (cN r.xs) (cRest r.xs) ∧ r.conf.2.xs = nR (cN r.xs) (cRest r.xs) ∧ r.conf.2.bad = nB (cN r.xs) (cRest r.xs) (cBad r.xs r.bad) := by
  obtain ⟨e1, e2, e3⟩ := r.count_eq
  obtain ⟨n1, n2, n3⟩ := r.count.2.nums_eq (cN r.xs)
  rw [RS.conf, e1, Int.toNat_natCast, ← e2, ← e3]
  exact ⟨n1, n2, n3⟩
end Go.Proofs.Yteegdhfekemhmaa

namespace Go.Proofs.Yteegdhfekemhmaa
open Go.RowKit Sim Go Sym
set_option maxRecDepth 100000
set_option linter.unusedVariables false
set_option linter.unusedSimpArgs false
variable {base : Nat}
structure Ent where
  ix : Int
  tm : Int
  kd : Int
  z : Bool
  d : List Nat
  c : Option Nat
def Ent.cs (e : Ent) : List PC := [.int .i64 e.ix, .int .i64 e.tm, .int .i64 e.kd, .tz e.z 1 (byP e.d) e.c]
def Ent.pc (e : Ent) : PC := .agg e.cs
def entP (l : List Ent) : List PC := l.map Ent.pc
def I64 (n : Int) : Prop := -9223372036854775808 ≤ n ∧ n ≤ 9223372036854775807
def okB (l : List Nat) : Prop := l.length ≤ 100000000000 ∧ ∀ b ∈ l, b < 256
structure Ent.ok (e : Ent) : Prop where
  ix : I64 e.ix
  tm : I64 e.tm
  kd : I64 e.kd
  d : okB e.d
theorem entP_at (pre rest : List Ent) (e : Ent) : (entP (pre ++ e :: rest))[((pre.length : Int)).toNat]? = some e.pc := at_app _ _ _ _
/-! Members. -/
noncomputable def lMem : {F : LF // lowerF Try.prog 94 = some F} := ⟨_, rfl⟩
def memB : Nat → List Nat → Bool
  | _, [] => true
  | p, b :: l => (decide (p < b) && decide (b ≤ 7)) && memB b l
def memL (l : List Nat) : List Nat := if memB 0 l = true then l else []
def nums (l : List Nat) : List PC := inP (l.map fun (b : Nat) => (b : Int))
theorem memB_app : ∀ (l r : List Nat) (p : Nat), memB p (l ++ r) = (memB p l && memB (l.getLast?.getD p) r)
  | [], r, p => by simp [memB]
  | b :: l, r, p => by
    have : (b :: l).getLast?.getD p = l.getLast?.getD b := by cases l <;> simp [List.getLast?_cons]
    rw [List.cons_append, memB, memB, memB_app l r b, this]; simp only [Bool.and_assoc]
def memE (v : XV) (z : Bool) (c : Option Nat) (l pre : List Nat) (b : Nat) : Env := [(31, v), (3, accV 0 1 (nums pre)), (5, .c (.p (.int .u8 b))), (0, .c (.p (.tz z 1 (byP l) c))), (6, .c (.p (.tz z 1 (byP l) c))), (7, .c (.p (.int .i64 (byP l).length))), (8, .c (.p (.int .i64 pre.length)))]
theorem members_loop (z : Bool) (c : Option Nat) (l : List Nat) (hl : okB l) (Q : QX) (hq : memB 0 l = true → Q (.exit 0) [(3, accV 0 1 (nums l))] ⟨[(0, accO 1 (nums l))], 1⟩) (hr : memB 0 l = false → Q .ret [(2, .c (.p (.tz true 1 [] none)))] ⟨[], 0⟩) :
    ∀ (rest pre : List Nat), l = pre ++ rest → memB 0 pre = true → XH Try.prog base lMem.1.n 0 (lMem.1.c.lp 0) [(0, .c (.p (.tz z 1 (byP l) c))), (6, .c (.p (.tz z 1 (byP l) c))), (7, .c (.p (.int .i64 (byP l).length))), (8, .c (.p (.int .i64 pre.length))), (3, accV 0 1 (nums pre))] ⟨[(0, accO 1 (nums pre))], 1⟩ Q := by
  intro rest
  induction rest with
  | nil =>
    intro pre hp hm
    refine M.round (M.go rfl ?_)
    simp at hp
    subst hp
    refine M.cond rfl (fun hc => ?_) (fun hc => ?_)
    · simp [byP] at hc
    · refine M.ren [(0, 0)] ?_ trivial rfl ⟨⟨_, _, accV_ren rfl, rfl, Wk.rfl⟩, trivial⟩ (.acc rfl rfl trivial) (e' := [(3, accV 0 1 (nums l))]) (h' := ⟨[(0, accO 1 (nums l))], 1⟩)
      exact M.exit (M.go rfl (M.done (hq hm)))
  | cons b rest ih =>
    intro pre hp hm
    have hbl : b < 256 := hl.2 b (by rw [hp]; simp)
    have hlen : (byP l).length = pre.length + (rest.length + 1) := by rw [hp]; simp [byP]
    have hll : pre.length + rest.length < 10000000000000 := by have := hl.1; rw [hp] at this; simp at this; omega
    refine M.round (M.go rfl ?_)
    refine M.cond rfl (fun hc => ?_) (fun hc => ?_)
    · refine M.go rfl ?_
      have hu : (byP l)[((pre.length : Int)).toNat]? = some (.int .u8 b) := by rw [hp]; exact at_app _ _ _ _
      refine M.op trivial (SOp.ia rfl rfl (by omega) hu) ?_
      refine M.op trivial (SOp.ld1e rfl hu rfl rfl rfl) ?_
      refine M.go rfl ?_
      obtain ⟨T, hT⟩ : ∃ T, T = (decide (pre.getLast?.getD 0 < b) && decide (b ≤ 7)) := ⟨_, rfl⟩
      have hmb : memB 0 l = (T && memB b rest) := by rw [hp, memB_app, hm, Bool.true_and, memB, hT]
      refine M.mid (memE (.c (.p (.bs (!T)))) z c l pre b) ⟨[(0, accO 1 (nums pre))], 1⟩ ?_ ?_
      · refine M.dec rfl (fun h1 => ?_) (fun h1 => ?_)
        · exact M.go rfl (M.end [(0, 0)] rfl ⟨⟨_, _, rfl, rfl, Wk.b1 (by rw [hT, decide_eq_false (p := _ < b) (by omega)]; rfl)⟩, (by repeat' (first | exact True.intro | refine ⟨⟨_, _, rfl, rfl, Wk.rfl⟩, ?_⟩ | refine ⟨⟨_, _, accV_ren rfl, rfl, Wk.rfl⟩, ?_⟩ | refine ⟨⟨_, _, accV_ren rfl, rfl, Wk.acc0⟩, ?_⟩ | refine ⟨⟨_, _, rfl, rfl, Wk.uncap⟩, ?_⟩ | refine ⟨⟨_, _, rfl, rfl, Wk.nil⟩, ?_⟩))⟩ (by repeat' (first | exact True.intro | refine ⟨⟨_, _, _, rfl, rfl, rfl, WkO.rfl⟩, ?_⟩ | refine HeapOK.acc rfl rfl ?_ | refine HeapOK.es rfl rfl ?_)))
        · refine M.go rfl ?_
          refine M.dec rfl (fun h2 => ?_) (fun h2 => ?_)
          · exact M.go rfl (M.end [(0, 0)] rfl ⟨⟨_, _, rfl, rfl, Wk.b1 (by rw [hT, decide_eq_false (p := b ≤ 7) (by omega)]; simp)⟩, (by repeat' (first | exact True.intro | refine ⟨⟨_, _, rfl, rfl, Wk.rfl⟩, ?_⟩ | refine ⟨⟨_, _, accV_ren rfl, rfl, Wk.rfl⟩, ?_⟩ | refine ⟨⟨_, _, accV_ren rfl, rfl, Wk.acc0⟩, ?_⟩ | refine ⟨⟨_, _, rfl, rfl, Wk.uncap⟩, ?_⟩ | refine ⟨⟨_, _, rfl, rfl, Wk.nil⟩, ?_⟩))⟩ (by repeat' (first | exact True.intro | refine ⟨⟨_, _, _, rfl, rfl, rfl, WkO.rfl⟩, ?_⟩ | refine HeapOK.acc rfl rfl ?_ | refine HeapOK.es rfl rfl ?_)))
          · refine M.go rfl ?_
            have e2 : decide (b ≤ 7) = true := by simp; omega
            refine M.dec rfl (fun h3 => ?_) (fun h3 => ?_)
            · refine M.go rfl ?_
              obtain ⟨p0, q, rfl⟩ : ∃ p0 q, pre = p0 ++ [q] := ⟨_, _, (List.dropLast_concat_getLast (by rintro rfl; simp at h3)).symm⟩
              have hw : IntKind.i64.wrap (((p0 ++ [q]).length : Int) - 1) = p0.length := by
                rw [wr64 (by simp) (by simp at hll ⊢; omega)]; simp
              rw [hw]
              have hu' : (byP l)[((p0.length : Int)).toNat]? = some (.int .u8 q) := by rw [hp, List.append_assoc]; exact at_app _ _ _ _
              refine M.op rfl (SOp.ia rfl rfl (by omega) hu') ?_
              refine M.op rfl (SOp.ld1e rfl hu' rfl rfl rfl) ?_
              refine M.go rfl (M.end [(0, 0)] rfl ⟨⟨_, _, rfl, rfl, Wk.b2 ?_⟩, (by repeat' (first | exact True.intro | refine ⟨⟨_, _, rfl, rfl, Wk.rfl⟩, ?_⟩ | refine ⟨⟨_, _, accV_ren rfl, rfl, Wk.rfl⟩, ?_⟩ | refine ⟨⟨_, _, accV_ren rfl, rfl, Wk.acc0⟩, ?_⟩ | refine ⟨⟨_, _, rfl, rfl, Wk.uncap⟩, ?_⟩ | refine ⟨⟨_, _, rfl, rfl, Wk.nil⟩, ?_⟩))⟩ (by repeat' (first | exact True.intro | refine ⟨⟨_, _, _, rfl, rfl, rfl, WkO.rfl⟩, ?_⟩ | refine HeapOK.acc rfl rfl ?_ | refine HeapOK.es rfl rfl ?_)))
              have e1 : (p0 ++ [q]).getLast?.getD 0 = q := by simp
              rw [hT, e1, e2, Bool.and_true]
              by_cases hq : b ≤ q
              · rw [decide_eq_true (p := (b : Int) ≤ q) (by omega), decide_eq_false (p := q < b) (by omega)]; rfl
              · rw [decide_eq_false (p := (b : Int) ≤ q) (by omega), decide_eq_true (p := q < b) (by omega)]; rfl
            · refine M.go rfl (M.end [(0, 0)] rfl ⟨⟨_, _, rfl, rfl, Wk.b1 ?_⟩, (by repeat' (first | exact True.intro | refine ⟨⟨_, _, rfl, rfl, Wk.rfl⟩, ?_⟩ | refine ⟨⟨_, _, accV_ren rfl, rfl, Wk.rfl⟩, ?_⟩ | refine ⟨⟨_, _, accV_ren rfl, rfl, Wk.acc0⟩, ?_⟩ | refine ⟨⟨_, _, rfl, rfl, Wk.uncap⟩, ?_⟩ | refine ⟨⟨_, _, rfl, rfl, Wk.nil⟩, ?_⟩))⟩ (by repeat' (first | exact True.intro | refine ⟨⟨_, _, _, rfl, rfl, rfl, WkO.rfl⟩, ?_⟩ | refine HeapOK.acc rfl rfl ?_ | refine HeapOK.es rfl rfl ?_)))
              have : pre = [] := List.eq_nil_of_length_eq_zero (by omega)
              subst this
              rw [hT, e2, decide_eq_true (by simp; omega)]; rfl
      · refine M.go rfl ?_
        refine M.condB rfl (fun hc => ?_) (fun hc => ?_)
        · refine M.go rfl ?_
          refine M.ren [] ?_ trivial rfl (by repeat' (first | exact True.intro | refine ⟨⟨_, _, rfl, rfl, Wk.rfl⟩, ?_⟩ | refine ⟨⟨_, _, accV_ren rfl, rfl, Wk.rfl⟩, ?_⟩ | refine ⟨⟨_, _, accV_ren rfl, rfl, Wk.acc0⟩, ?_⟩ | refine ⟨⟨_, _, rfl, rfl, Wk.uncap⟩, ?_⟩ | refine ⟨⟨_, _, rfl, rfl, Wk.nil⟩, ?_⟩)) (by repeat' (first | exact True.intro | refine ⟨⟨_, _, _, rfl, rfl, rfl, WkO.rfl⟩, ?_⟩ | refine HeapOK.acc rfl rfl ?_ | refine HeapOK.es rfl rfl ?_)) (e' := [(2, .c (.p (.tz true 1 [] none)))]) (h' := ⟨[], 0⟩)
          exact M.ret (M.go rfl (M.done (hr (by rw [hmb]; rw [Bool.not_eq_true'] at hc; rw [hc]; rfl))))
        · refine M.go rfl ?_
          have hbb : T = true := by simpa using hc
          have ih' := ih (pre ++ [b]) (by rw [hp]; simp) (by rw [memB_app, hm, Bool.true_and, memB, memB, ← hT, hbb]; rfl)
          have hw : IntKind.i64.wrap (b : Int) = b := wr64 (by omega) (by omega)
          have hw2 : IntKind.i64.wrap ((pre.length : Int) + 1) = ((pre ++ [b]).length : Int) := by rw [wr64 (by omega) (by omega)]; simp
          rw [hw]
          rw [show nums (pre ++ [b]) = nums pre ++ [.int .i64 b] by simp [nums, inP]] at ih'
          refine M.acc trivial rfl rfl rfl (.own rfl rfl) (by simp) (by simp [nums, inP]; omega) ?_
          refine M.go rfl ?_
          rw [hw2]
          exact M.again (XH.ren [(0, 2)] ih' rfl (by repeat' (first | exact True.intro | refine ⟨⟨_, _, rfl, rfl, Wk.rfl⟩, ?_⟩ | refine ⟨⟨_, _, accV_ren rfl, rfl, Wk.rfl⟩, ?_⟩ | refine ⟨⟨_, _, accV_ren rfl, rfl, Wk.acc0⟩, ?_⟩ | refine ⟨⟨_, _, rfl, rfl, Wk.uncap⟩, ?_⟩ | refine ⟨⟨_, _, rfl, rfl, Wk.nil⟩, ?_⟩)) (by repeat' (first | exact True.intro | refine ⟨⟨_, _, _, rfl, rfl, rfl, WkO.rfl⟩, ?_⟩ | refine HeapOK.acc rfl rfl ?_ | refine HeapOK.es rfl rfl ?_)))
    · rw [hlen] at hc; omega
theorem members_spec (z : Bool) (c : Option Nat) (l : List Nat) (hl : okB l) : CallS Try.prog base 94 [.c (.p (.tz z 1 (byP l) c))] ⟨[], 0⟩ (.c (.p (.tz true 1 (nums (memL l)) none))) ⟨[], 0⟩ := by
  refine CallS.of noNG lMem.2 rfl (M.start (M.go rfl ?_))
  refine M.loop (XH.ren [(0, 0)] (members_loop z c l hl _ ?_ ?_ l [] rfl rfl) rfl (by repeat' (first | exact True.intro | refine ⟨⟨_, _, rfl, rfl, Wk.rfl⟩, ?_⟩ | refine ⟨⟨_, _, accV_ren rfl, rfl, Wk.rfl⟩, ?_⟩ | refine ⟨⟨_, _, accV_ren rfl, rfl, Wk.acc0⟩, ?_⟩ | refine ⟨⟨_, _, rfl, rfl, Wk.uncap⟩, ?_⟩ | refine ⟨⟨_, _, rfl, rfl, Wk.nil⟩, ?_⟩)) (by repeat' (first | exact True.intro | refine ⟨⟨_, _, _, rfl, rfl, rfl, WkO.rfl⟩, ?_⟩ | refine HeapOK.acc rfl rfl ?_ | refine HeapOK.es rfl rfl ?_)))
  · intro hm
    refine M.q (M.go rfl ?_)
    refine M.accF (i := 2) rfl rfl ?_
    refine M.ren [] ?_ trivial rfl (by repeat' (first | exact True.intro | refine ⟨⟨_, _, rfl, rfl, Wk.rfl⟩, ?_⟩ | refine ⟨⟨_, _, accV_ren rfl, rfl, Wk.rfl⟩, ?_⟩ | refine ⟨⟨_, _, accV_ren rfl, rfl, Wk.acc0⟩, ?_⟩ | refine ⟨⟨_, _, rfl, rfl, Wk.uncap⟩, ?_⟩ | refine ⟨⟨_, _, rfl, rfl, Wk.nil⟩, ?_⟩)) (by repeat' (first | exact True.intro | refine ⟨⟨_, _, _, rfl, rfl, rfl, WkO.rfl⟩, ?_⟩ | refine HeapOK.acc rfl rfl ?_ | refine HeapOK.es rfl rfl ?_)) (e' := [(2, .c (.p (.tz true 1 (nums l) none)))]) (h' := ⟨[], 0⟩)
    rw [memL, if_pos hm]
    exact M.ret (M.go rfl (M.done (finQ.ret [] rfl rfl rfl (by first | exact Wk.rfl | exact Wk.uncap | exact Wk.nil | exact Wk.b1 rfl | exact Wk.t2 Wk.rfl (Wk.b1 rfl)) (by repeat' (first | exact True.intro | refine ⟨⟨_, _, _, rfl, rfl, rfl, WkO.rfl⟩, ?_⟩ | refine HeapOK.acc rfl rfl ?_ | refine HeapOK.es rfl rfl ?_)))))
  · intro hm
    refine M.q (M.go rfl ?_)
    rw [memL, if_neg (by rw [hm]; simp)]
    exact M.done (finQ.ret [] rfl rfl rfl (by first | exact Wk.rfl | exact Wk.uncap | exact Wk.nil | exact Wk.b1 rfl | exact Wk.t2 Wk.rfl (Wk.b1 rfl)) (by repeat' (first | exact True.intro | refine ⟨⟨_, _, _, rfl, rfl, rfl, WkO.rfl⟩, ?_⟩ | refine HeapOK.acc rfl rfl ?_ | refine HeapOK.es rfl rfl ?_)))
/-! Clones. -/
noncomputable def lBcl : {F : LF // lowerF Try.prog 96 = some F} := ⟨_, rfl⟩
theorem Bcl_spec (z : Bool) (el : List PC) (c : Option Nat) (hl : el.length ≤ 1000000000000) : CallS Try.prog base 96 [.c (.p (.tz z 1 el c))] ⟨[], 0⟩ (.c (.p (.tz z 1 el none))) ⟨[], 0⟩ := by
  refine CallS.of noNG lBcl.2 rfl (M.start (M.go rfl ?_))
  refine M.condB rfl (fun hc => ?_) (fun hc => ?_)
  · refine M.go rfl ?_
    obtain ⟨rfl, rfl⟩ : z = true ∧ el = [] := by simpa using hc
    refine M.ren [] ?_ trivial rfl (by repeat' (first | exact True.intro | refine ⟨⟨_, _, rfl, rfl, Wk.rfl⟩, ?_⟩ | refine ⟨⟨_, _, accV_ren rfl, rfl, Wk.rfl⟩, ?_⟩ | refine ⟨⟨_, _, accV_ren rfl, rfl, Wk.acc0⟩, ?_⟩ | refine ⟨⟨_, _, rfl, rfl, Wk.uncap⟩, ?_⟩ | refine ⟨⟨_, _, rfl, rfl, Wk.nil⟩, ?_⟩)) (by repeat' (first | exact True.intro | refine ⟨⟨_, _, _, rfl, rfl, rfl, WkO.rfl⟩, ?_⟩ | refine HeapOK.acc rfl rfl ?_ | refine HeapOK.es rfl rfl ?_)) (e' := [(2, .c (.p (.tz true 1 [] none)))]) (h' := ⟨[], 0⟩)
    exact M.ret (M.go rfl (M.done (finQ.ret [] rfl rfl rfl (by first | exact Wk.rfl | exact Wk.uncap | exact Wk.nil | exact Wk.b1 rfl | exact Wk.t2 Wk.rfl (Wk.b1 rfl)) (by repeat' (first | exact True.intro | refine ⟨⟨_, _, _, rfl, rfl, rfl, WkO.rfl⟩, ?_⟩ | refine HeapOK.acc rfl rfl ?_ | refine HeapOK.es rfl rfl ?_)))))
  · refine M.go rfl ?_
    by_cases h0 : el = []
    · subst h0
      obtain rfl : z = false := by simpa using hc
      refine M.op trivial (SOp.app0 rfl rfl .tz (.inl ⟨_, _, _, _, _, rfl⟩)) ?_
      refine M.go rfl ?_
      refine M.freezeN (i := 2) rfl rfl rfl ?_
      refine M.ren [] ?_ trivial rfl (by repeat' (first | exact True.intro | refine ⟨⟨_, _, rfl, rfl, Wk.rfl⟩, ?_⟩ | refine ⟨⟨_, _, accV_ren rfl, rfl, Wk.rfl⟩, ?_⟩ | refine ⟨⟨_, _, accV_ren rfl, rfl, Wk.acc0⟩, ?_⟩ | refine ⟨⟨_, _, rfl, rfl, Wk.uncap⟩, ?_⟩ | refine ⟨⟨_, _, rfl, rfl, Wk.nil⟩, ?_⟩)) (by repeat' (first | exact True.intro | refine ⟨⟨_, _, _, rfl, rfl, rfl, WkO.rfl⟩, ?_⟩ | refine HeapOK.acc rfl rfl ?_ | refine HeapOK.es rfl rfl ?_)) (e' := [(2, .c (.p (.tz false 1 [] none)))]) (h' := ⟨[], 0⟩)
      exact M.ret (M.go rfl (M.done (finQ.ret [] rfl rfl rfl (by first | exact Wk.rfl | exact Wk.uncap | exact Wk.nil | exact Wk.b1 rfl | exact Wk.t2 Wk.rfl (Wk.b1 rfl)) (by repeat' (first | exact True.intro | refine ⟨⟨_, _, _, rfl, rfl, rfl, WkO.rfl⟩, ?_⟩ | refine HeapOK.acc rfl rfl ?_ | refine HeapOK.es rfl rfl ?_)))))
    · refine M.op trivial (SOp.appF (ex := []) rfl rfl rfl (by have := List.length_pos_iff.2 h0; simp; omega) rfl .tz h0 (by simp; omega)) ?_
      refine M.go rfl ?_
      refine M.freezeN (i := 2) rfl rfl (by simp) ?_
      refine M.ren [] ?_ trivial rfl ⟨⟨_, _, rfl, rfl, Wk.some h0⟩, trivial⟩ (by repeat' (first | exact True.intro | refine ⟨⟨_, _, _, rfl, rfl, rfl, WkO.rfl⟩, ?_⟩ | refine HeapOK.acc rfl rfl ?_ | refine HeapOK.es rfl rfl ?_)) (e' := [(2, .c (.p (.tz z 1 el none)))]) (h' := ⟨[], 0⟩)
      exact M.ret (M.go rfl (M.done (finQ.ret [] rfl rfl rfl (by first | exact Wk.rfl | exact Wk.uncap | exact Wk.nil | exact Wk.b1 rfl | exact Wk.t2 Wk.rfl (Wk.b1 rfl)) (by repeat' (first | exact True.intro | refine ⟨⟨_, _, _, rfl, rfl, rfl, WkO.rfl⟩, ?_⟩ | refine HeapOK.acc rfl rfl ?_ | refine HeapOK.es rfl rfl ?_)))))
noncomputable def lIcl : {F : LF // lowerF Try.prog 95 = some F} := ⟨_, rfl⟩
theorem Icl_spec (z : Bool) (el : List PC) (c : Option Nat) (hl : el.length ≤ 1000000000000) : CallS Try.prog base 95 [.c (.p (.tz z 1 el c))] ⟨[], 0⟩ (.c (.p (.tz z 1 el none))) ⟨[], 0⟩ := by
  refine CallS.of noNG lIcl.2 rfl (M.start (M.go rfl ?_))
  refine M.condB rfl (fun hc => ?_) (fun hc => ?_)
  · refine M.go rfl ?_
    obtain ⟨rfl, rfl⟩ : z = true ∧ el = [] := by simpa using hc
    refine M.ren [] ?_ trivial rfl (by repeat' (first | exact True.intro | refine ⟨⟨_, _, rfl, rfl, Wk.rfl⟩, ?_⟩ | refine ⟨⟨_, _, accV_ren rfl, rfl, Wk.rfl⟩, ?_⟩ | refine ⟨⟨_, _, accV_ren rfl, rfl, Wk.acc0⟩, ?_⟩ | refine ⟨⟨_, _, rfl, rfl, Wk.uncap⟩, ?_⟩ | refine ⟨⟨_, _, rfl, rfl, Wk.nil⟩, ?_⟩)) (by repeat' (first | exact True.intro | refine ⟨⟨_, _, _, rfl, rfl, rfl, WkO.rfl⟩, ?_⟩ | refine HeapOK.acc rfl rfl ?_ | refine HeapOK.es rfl rfl ?_)) (e' := [(2, .c (.p (.tz true 1 [] none)))]) (h' := ⟨[], 0⟩)
    exact M.ret (M.go rfl (M.done (finQ.ret [] rfl rfl rfl (by first | exact Wk.rfl | exact Wk.uncap | exact Wk.nil | exact Wk.b1 rfl | exact Wk.t2 Wk.rfl (Wk.b1 rfl)) (by repeat' (first | exact True.intro | refine ⟨⟨_, _, _, rfl, rfl, rfl, WkO.rfl⟩, ?_⟩ | refine HeapOK.acc rfl rfl ?_ | refine HeapOK.es rfl rfl ?_)))))
  · refine M.go rfl ?_
    by_cases h0 : el = []
    · subst h0
      obtain rfl : z = false := by simpa using hc
      refine M.op trivial (SOp.app0 rfl rfl .tz (.inl ⟨_, _, _, _, _, rfl⟩)) ?_
      refine M.go rfl ?_
      refine M.freezeN (i := 2) rfl rfl rfl ?_
      refine M.ren [] ?_ trivial rfl (by repeat' (first | exact True.intro | refine ⟨⟨_, _, rfl, rfl, Wk.rfl⟩, ?_⟩ | refine ⟨⟨_, _, accV_ren rfl, rfl, Wk.rfl⟩, ?_⟩ | refine ⟨⟨_, _, accV_ren rfl, rfl, Wk.acc0⟩, ?_⟩ | refine ⟨⟨_, _, rfl, rfl, Wk.uncap⟩, ?_⟩ | refine ⟨⟨_, _, rfl, rfl, Wk.nil⟩, ?_⟩)) (by repeat' (first | exact True.intro | refine ⟨⟨_, _, _, rfl, rfl, rfl, WkO.rfl⟩, ?_⟩ | refine HeapOK.acc rfl rfl ?_ | refine HeapOK.es rfl rfl ?_)) (e' := [(2, .c (.p (.tz false 1 [] none)))]) (h' := ⟨[], 0⟩)
      exact M.ret (M.go rfl (M.done (finQ.ret [] rfl rfl rfl (by first | exact Wk.rfl | exact Wk.uncap | exact Wk.nil | exact Wk.b1 rfl | exact Wk.t2 Wk.rfl (Wk.b1 rfl)) (by repeat' (first | exact True.intro | refine ⟨⟨_, _, _, rfl, rfl, rfl, WkO.rfl⟩, ?_⟩ | refine HeapOK.acc rfl rfl ?_ | refine HeapOK.es rfl rfl ?_)))))
    · refine M.op trivial (SOp.appF (ex := []) rfl rfl rfl (by have := List.length_pos_iff.2 h0; simp; omega) rfl .tz h0 (by simp; omega)) ?_
      refine M.go rfl ?_
      refine M.freezeN (i := 2) rfl rfl (by simp) ?_
      refine M.ren [] ?_ trivial rfl ⟨⟨_, _, rfl, rfl, Wk.some h0⟩, trivial⟩ (by repeat' (first | exact True.intro | refine ⟨⟨_, _, _, rfl, rfl, rfl, WkO.rfl⟩, ?_⟩ | refine HeapOK.acc rfl rfl ?_ | refine HeapOK.es rfl rfl ?_)) (e' := [(2, .c (.p (.tz z 1 el none)))]) (h' := ⟨[], 0⟩)
      exact M.ret (M.go rfl (M.done (finQ.ret [] rfl rfl rfl (by first | exact Wk.rfl | exact Wk.uncap | exact Wk.nil | exact Wk.b1 rfl | exact Wk.t2 Wk.rfl (Wk.b1 rfl)) (by repeat' (first | exact True.intro | refine ⟨⟨_, _, _, rfl, rfl, rfl, WkO.rfl⟩, ?_⟩ | refine HeapOK.acc rfl rfl ?_ | refine HeapOK.es rfl rfl ?_)))))
noncomputable def lEcl : {F : LF // lowerF Try.prog 97 = some F} := ⟨_, rfl⟩
theorem Ecl_spec (z : Bool) (el : List PC) (c : Option Nat) (hl : el.length ≤ 1000000000000) : CallS Try.prog base 97 [.c (.p (.tz z 4 el c))] ⟨[], 0⟩ (.c (.p (.tz z 4 el none))) ⟨[], 0⟩ := by
  refine CallS.of noNG lEcl.2 rfl (M.start (M.go rfl ?_))
  refine M.condB rfl (fun hc => ?_) (fun hc => ?_)
  · refine M.go rfl ?_
    obtain ⟨rfl, rfl⟩ : z = true ∧ el = [] := by simpa using hc
    refine M.ren [] ?_ trivial rfl (by repeat' (first | exact True.intro | refine ⟨⟨_, _, rfl, rfl, Wk.rfl⟩, ?_⟩ | refine ⟨⟨_, _, accV_ren rfl, rfl, Wk.rfl⟩, ?_⟩ | refine ⟨⟨_, _, accV_ren rfl, rfl, Wk.acc0⟩, ?_⟩ | refine ⟨⟨_, _, rfl, rfl, Wk.uncap⟩, ?_⟩ | refine ⟨⟨_, _, rfl, rfl, Wk.nil⟩, ?_⟩)) (by repeat' (first | exact True.intro | refine ⟨⟨_, _, _, rfl, rfl, rfl, WkO.rfl⟩, ?_⟩ | refine HeapOK.acc rfl rfl ?_ | refine HeapOK.es rfl rfl ?_)) (e' := [(2, .c (.p (.tz true 4 [] none)))]) (h' := ⟨[], 0⟩)
    exact M.ret (M.go rfl (M.done (finQ.ret [] rfl rfl rfl (by first | exact Wk.rfl | exact Wk.uncap | exact Wk.nil | exact Wk.b1 rfl | exact Wk.t2 Wk.rfl (Wk.b1 rfl)) (by repeat' (first | exact True.intro | refine ⟨⟨_, _, _, rfl, rfl, rfl, WkO.rfl⟩, ?_⟩ | refine HeapOK.acc rfl rfl ?_ | refine HeapOK.es rfl rfl ?_)))))
  · refine M.go rfl ?_
    by_cases h0 : el = []
    · subst h0
      obtain rfl : z = false := by simpa using hc
      refine M.op trivial (SOp.app0 rfl rfl .tz (.inl ⟨_, _, _, _, _, rfl⟩)) ?_
      refine M.go rfl ?_
      refine M.freezeN (i := 2) rfl rfl rfl ?_
      refine M.ren [] ?_ trivial rfl (by repeat' (first | exact True.intro | refine ⟨⟨_, _, rfl, rfl, Wk.rfl⟩, ?_⟩ | refine ⟨⟨_, _, accV_ren rfl, rfl, Wk.rfl⟩, ?_⟩ | refine ⟨⟨_, _, accV_ren rfl, rfl, Wk.acc0⟩, ?_⟩ | refine ⟨⟨_, _, rfl, rfl, Wk.uncap⟩, ?_⟩ | refine ⟨⟨_, _, rfl, rfl, Wk.nil⟩, ?_⟩)) (by repeat' (first | exact True.intro | refine ⟨⟨_, _, _, rfl, rfl, rfl, WkO.rfl⟩, ?_⟩ | refine HeapOK.acc rfl rfl ?_ | refine HeapOK.es rfl rfl ?_)) (e' := [(2, .c (.p (.tz false 4 [] none)))]) (h' := ⟨[], 0⟩)
      exact M.ret (M.go rfl (M.done (finQ.ret [] rfl rfl rfl (by first | exact Wk.rfl | exact Wk.uncap | exact Wk.nil | exact Wk.b1 rfl | exact Wk.t2 Wk.rfl (Wk.b1 rfl)) (by repeat' (first | exact True.intro | refine ⟨⟨_, _, _, rfl, rfl, rfl, WkO.rfl⟩, ?_⟩ | refine HeapOK.acc rfl rfl ?_ | refine HeapOK.es rfl rfl ?_)))))
    · refine M.op trivial (SOp.appF (ex := []) rfl rfl rfl (by have := List.length_pos_iff.2 h0; simp; omega) rfl .tz h0 (by simp; omega)) ?_
      refine M.go rfl ?_
      refine M.freezeN (i := 2) rfl rfl (by simp) ?_
      refine M.ren [] ?_ trivial rfl ⟨⟨_, _, rfl, rfl, Wk.some h0⟩, trivial⟩ (by repeat' (first | exact True.intro | refine ⟨⟨_, _, _, rfl, rfl, rfl, WkO.rfl⟩, ?_⟩ | refine HeapOK.acc rfl rfl ?_ | refine HeapOK.es rfl rfl ?_)) (e' := [(2, .c (.p (.tz z 4 el none)))]) (h' := ⟨[], 0⟩)
      exact M.ret (M.go rfl (M.done (finQ.ret [] rfl rfl rfl (by first | exact Wk.rfl | exact Wk.uncap | exact Wk.nil | exact Wk.b1 rfl | exact Wk.t2 Wk.rfl (Wk.b1 rfl)) (by repeat' (first | exact True.intro | refine ⟨⟨_, _, _, rfl, rfl, rfl, WkO.rfl⟩, ?_⟩ | refine HeapOK.acc rfl rfl ?_ | refine HeapOK.es rfl rfl ?_)))))
noncomputable def lClip : {F : LF // lowerF Try.prog 98 = some F} := ⟨_, rfl⟩
theorem Clip_spec (z : Bool) (el : List PC) (c : Option Nat) : CallS Try.prog base 98 [.c (.p (.tz z 4 el c))] ⟨[], 0⟩ (.c (.p (.tz (z && el.isEmpty) 4 el (some el.length)))) ⟨[], 0⟩ := by
  refine CallS.of noNG lClip.2 rfl (M.start (M.go rfl ?_))
  refine M.op trivial (SOp.slM (l := 0) (r := el.length) (m := el.length) rfl rfl ⟨_, _, rfl, by omega, by simp⟩ ⟨_, _, rfl, by omega, by simp⟩ (by omega) (by omega) (by omega)) ?_
  refine M.go rfl ?_
  rw [show (el.drop 0).take (el.length - 0) = el by simp, show el.length - 0 = el.length by omega]
  refine M.ren [] ?_ trivial rfl (by repeat' (first | exact True.intro | refine ⟨⟨_, _, rfl, rfl, Wk.rfl⟩, ?_⟩ | refine ⟨⟨_, _, accV_ren rfl, rfl, Wk.rfl⟩, ?_⟩ | refine ⟨⟨_, _, accV_ren rfl, rfl, Wk.acc0⟩, ?_⟩ | refine ⟨⟨_, _, rfl, rfl, Wk.uncap⟩, ?_⟩ | refine ⟨⟨_, _, rfl, rfl, Wk.nil⟩, ?_⟩)) (by repeat' (first | exact True.intro | refine ⟨⟨_, _, _, rfl, rfl, rfl, WkO.rfl⟩, ?_⟩ | refine HeapOK.acc rfl rfl ?_ | refine HeapOK.es rfl rfl ?_)) (e' := [(2, .c (.p (.tz (z && el.isEmpty) 4 el (some el.length))))]) (h' := ⟨[], 0⟩)
  exact M.ret (M.go rfl (M.done (finQ.ret [] rfl rfl rfl (by first | exact Wk.rfl | exact Wk.uncap | exact Wk.nil | exact Wk.b1 rfl | exact Wk.t2 Wk.rfl (Wk.b1 rfl)) (by repeat' (first | exact True.intro | refine ⟨⟨_, _, _, rfl, rfl, rfl, WkO.rfl⟩, ?_⟩ | refine HeapOK.acc rfl rfl ?_ | refine HeapOK.es rfl rfl ?_)))))
/-! An entry, a snapshot of one's own. -/
noncomputable def lOwn : {F : LF // lowerF Try.prog 93 = some F} := ⟨_, rfl⟩
def Ent.own (e : Ent) : Ent := { e with c := none }
def Ent.v (e : Ent) : XV := .agg (e.cs.map XC.p)
theorem byP_len (l : List Nat) : (byP l).length = l.length := by simp [byP]
theorem own_spec (e : Ent) (he : okB e.d) : CallS Try.prog base 93 [e.v] ⟨[], 0⟩ e.own.v ⟨[], 0⟩ := by
  refine CallS.of noNG lOwn.2 rfl (M.start (M.go rfl ?_))
  refine M.use0 trivial (Bcl_spec e.z (byP e.d) e.c (by have := he.1; rw [byP_len]; omega)) rfl rfl rfl ?_
  refine M.go rfl ?_
  exact M.ret (M.go rfl (M.done (finQ.ret [] rfl rfl rfl (by first | exact Wk.rfl | exact Wk.uncap | exact Wk.nil | exact Wk.b1 rfl | exact Wk.t2 Wk.rfl (Wk.b1 rfl)) (by repeat' (first | exact True.intro | refine ⟨⟨_, _, _, rfl, rfl, rfl, WkO.rfl⟩, ?_⟩ | refine HeapOK.acc rfl rfl ?_ | refine HeapOK.es rfl rfl ?_)))))
structure Snp where
  ix : Int
  tm : Int
  cz : Bool
  cf : List Int
  cc : Option Nat
  dz : Bool
  d : List Nat
  dc : Option Nat
def Snp.cs (s : Snp) : List PC := [.int .i64 s.ix, .int .i64 s.tm, .tz s.cz 1 (inP s.cf) s.cc, .tz s.dz 1 (byP s.d) s.dc]
def Snp.pc (s : Snp) : PC := .agg s.cs
def Snp.v (s : Snp) : XV := .agg (s.cs.map XC.p)
def Snp.own (s : Snp) : Snp := { s with cc := none, dc := none }
structure Snp.ok (s : Snp) : Prop where
  ix : I64 s.ix
  tm : I64 s.tm
  cf : s.cf.length ≤ 100000000000 ∧ ∀ i ∈ s.cf, I64 i
  d : okB s.d
theorem inP_len (l : List Int) : (inP l).length = l.length := by simp [inP]
noncomputable def lOwnS : {F : LF // lowerF Try.prog 92 = some F} := ⟨_, rfl⟩
theorem ownS_spec (s : Snp) (hs : s.ok) : CallS Try.prog base 92 [s.v] ⟨[], 0⟩ s.own.v ⟨[], 0⟩ := by
  refine CallS.of noNG lOwnS.2 rfl (M.start (M.go rfl ?_))
  refine M.regF (MF.go rfl ?_)
  refine MF.use0 trivial (Icl_spec s.cz (inP s.cf) s.cc (by have := hs.cf.1; rw [inP_len]; omega)) rfl rfl rfl (MF.go rfl ?_)
  refine MF.use0 trivial (Bcl_spec s.dz (byP s.d) s.dc (by have := hs.d.1; rw [byP_len]; omega)) rfl rfl rfl (MF.go rfl ?_)
  refine MF.nil mixed (Fnl.nodup rfl) rfl ⟨⟨stepX_ok rfl, trivial⟩, trivial⟩ ?_
  refine M.go rfl ?_
  exact M.ret (M.go rfl (M.done (finQ.ret [] rfl rfl rfl (by first | exact Wk.rfl | exact Wk.uncap | exact Wk.nil | exact Wk.b1 rfl | exact Wk.t2 Wk.rfl (Wk.b1 rfl)) (by repeat' (first | exact True.intro | refine ⟨⟨_, _, _, rfl, rfl, rfl, WkO.rfl⟩, ?_⟩ | refine HeapOK.acc rfl rfl ?_ | refine HeapOK.es rfl rfl ?_)))))
/-! Which entries may stand behind one another. -/
noncomputable def lMay : {F : LF // lowerF Try.prog 91 = some F} := ⟨_, rfl⟩
def entB (i t : Int) (e : Ent) : Bool := !(!decide (e.ix = i) || (decide (e.tm < 1) || (decide (e.tm < t) || (decide (e.kd < 1) || (decide (3 < e.kd) || (decide (e.kd = 3) && (memL e.d).isEmpty))))))
def mayF : Int → Int → List Ent → Bool
  | _, _, [] => true
  | i, t, e :: l => !decide (i = 9223372036854775807) && (entB (i + 1) t e && mayF (i + 1) e.tm l)
def mayE (z : Bool) (c : Option Nat) (l pre : List Ent) (i t : Int) : Env := [(0, .c (.p (.int .i64 i))), (1, .c (.p (.int .i64 t))), (9, .c (.p (.tz z 4 (entP l) c))), (10, .c (.p (.int .i64 (entP l).length))), (11, .c (.p (.int .i64 pre.length)))]
theorem may_loop (z : Bool) (c : Option Nat) (l : List Ent) (hl : l.length ≤ 100000000000) (hok : ∀ e ∈ l, e.ok) (Q : QX) :
    ∀ (rest pre : List Ent) (i t : Int), l = pre ++ rest → I64 i → (mayF i t rest = true → Q (.exit 0) [] ⟨[], 0⟩) → (mayF i t rest = false → Q .ret [(6, .c (.p (.bool false)))] ⟨[], 0⟩) → XH Try.prog base lMay.1.n 0 (lMay.1.c.lp 0) (mayE z c l pre i t) ⟨[], 0⟩ Q := by
  intro rest
  induction rest with
  | nil =>
    intro pre i t hp hi hq hr
    refine M.round (M.go rfl ?_)
    simp at hp
    subst hp
    refine M.cond rfl (fun hc => ?_) (fun hc => ?_)
    · simp [entP] at hc
    · refine M.ren [] ?_ trivial rfl (by repeat' (first | exact True.intro | refine ⟨⟨_, _, rfl, rfl, Wk.rfl⟩, ?_⟩ | refine ⟨⟨_, _, accV_ren rfl, rfl, Wk.rfl⟩, ?_⟩ | refine ⟨⟨_, _, accV_ren rfl, rfl, Wk.acc0⟩, ?_⟩ | refine ⟨⟨_, _, rfl, rfl, Wk.uncap⟩, ?_⟩ | refine ⟨⟨_, _, rfl, rfl, Wk.nil⟩, ?_⟩)) (by repeat' (first | exact True.intro | refine ⟨⟨_, _, _, rfl, rfl, rfl, WkO.rfl⟩, ?_⟩ | refine HeapOK.acc rfl rfl ?_ | refine HeapOK.es rfl rfl ?_)) (e' := []) (h' := ⟨[], 0⟩)
      exact M.exit (M.go rfl (M.done (hq rfl)))
  | cons e rest ih =>
    intro pre i t hp hi hq hr
    have he : e.ok := hok e (by rw [hp]; simp)
    have hlen : (entP l).length = pre.length + (rest.length + 1) := by rw [hp]; simp [entP]
    have hll : pre.length + rest.length < 100000000000 := by rw [hp] at hl; simp at hl; omega
    have fin : mayF i t (e :: rest) = false → M Try.prog base lMay.1.n 0 (.out .ret) [] [(6, .c (.p (.bool false)))] ⟨[], 0⟩ Q := fun hm => M.done (hr hm)
    refine M.round (M.go rfl ?_)
    refine M.cond rfl (fun hc => ?_) (fun hc => ?_)
    · refine M.go rfl ?_
      have hu : (entP l)[((pre.length : Int)).toNat]? = some e.pc := by rw [hp]; exact at_app _ _ _ _
      refine M.op trivial (SOp.ia rfl rfl (by omega) hu) ?_
      refine M.op trivial (SOp.ldne rfl hu rfl rfl rfl) ?_
      refine M.go rfl ?_
      refine M.cond rfl (fun h0 => ?_) (fun h0 => ?_)
      · refine M.go rfl ?_
        refine M.ren [] ?_ trivial rfl (by repeat' (first | exact True.intro | refine ⟨⟨_, _, rfl, rfl, Wk.rfl⟩, ?_⟩ | refine ⟨⟨_, _, accV_ren rfl, rfl, Wk.rfl⟩, ?_⟩ | refine ⟨⟨_, _, accV_ren rfl, rfl, Wk.acc0⟩, ?_⟩ | refine ⟨⟨_, _, rfl, rfl, Wk.uncap⟩, ?_⟩ | refine ⟨⟨_, _, rfl, rfl, Wk.nil⟩, ?_⟩)) (by repeat' (first | exact True.intro | refine ⟨⟨_, _, _, rfl, rfl, rfl, WkO.rfl⟩, ?_⟩ | refine HeapOK.acc rfl rfl ?_ | refine HeapOK.es rfl rfl ?_)) (e' := [(6, .c (.p (.bool false)))]) (h' := ⟨[], 0⟩)
        exact M.ret (M.go rfl (M.done (hr (by rw [mayF, decide_eq_true (p := i = _) h0]; rfl))))
      · refine M.go rfl ?_
        have hw : IntKind.i64.wrap (i + 1) = i + 1 := wr64 (by have := hi.1; omega) (by have := hi.2; omega)
        rw [hw]
        obtain ⟨T, hT⟩ : ∃ T, T = entB (i + 1) t e := ⟨_, rfl⟩
        have hm : mayF i t (e :: rest) = (T && mayF (i + 1) e.tm rest) := by rw [mayF, hT, decide_eq_false (p := i = _) h0]; rfl
        refine M.mid ((54, .c (.p (.bs (!T)))) :: (8, .c (.ptr 0 0)) :: mayE z c l pre (i + 1) t) ⟨[(0, some (.row (e.cs.map XC.p) true))], 1⟩ ?_ ?_
        · refine M.decN rfl (fun h1 => ?_) (fun h1 => ?_)
          · refine M.go rfl (M.end [(0, 0)] rfl ⟨⟨_, _, rfl, rfl, Wk.b1 (by rw [hT]; simp [entB, h1])⟩, (by repeat' (first | exact True.intro | refine ⟨⟨_, _, rfl, rfl, Wk.rfl⟩, ?_⟩ | refine ⟨⟨_, _, accV_ren rfl, rfl, Wk.rfl⟩, ?_⟩ | refine ⟨⟨_, _, accV_ren rfl, rfl, Wk.acc0⟩, ?_⟩ | refine ⟨⟨_, _, rfl, rfl, Wk.uncap⟩, ?_⟩ | refine ⟨⟨_, _, rfl, rfl, Wk.nil⟩, ?_⟩))⟩ (by repeat' (first | exact True.intro | refine ⟨⟨_, _, _, rfl, rfl, rfl, WkO.rfl⟩, ?_⟩ | refine HeapOK.acc rfl rfl ?_ | refine HeapOK.es rfl rfl ?_)))
          · refine M.go rfl ?_
            refine M.dec rfl (fun h2 => ?_) (fun h2 => ?_)
            · refine M.go rfl (M.end [(0, 0)] rfl ⟨⟨_, _, rfl, rfl, Wk.b1 (by rw [hT]; simp [entB, h2])⟩, (by repeat' (first | exact True.intro | refine ⟨⟨_, _, rfl, rfl, Wk.rfl⟩, ?_⟩ | refine ⟨⟨_, _, accV_ren rfl, rfl, Wk.rfl⟩, ?_⟩ | refine ⟨⟨_, _, accV_ren rfl, rfl, Wk.acc0⟩, ?_⟩ | refine ⟨⟨_, _, rfl, rfl, Wk.uncap⟩, ?_⟩ | refine ⟨⟨_, _, rfl, rfl, Wk.nil⟩, ?_⟩))⟩ (by repeat' (first | exact True.intro | refine ⟨⟨_, _, _, rfl, rfl, rfl, WkO.rfl⟩, ?_⟩ | refine HeapOK.acc rfl rfl ?_ | refine HeapOK.es rfl rfl ?_)))
            · refine M.go rfl ?_
              refine M.dec rfl (fun h3 => ?_) (fun h3 => ?_)
              · refine M.go rfl (M.end [(0, 0)] rfl ⟨⟨_, _, rfl, rfl, Wk.b1 (by rw [hT]; simp [entB, h3])⟩, (by repeat' (first | exact True.intro | refine ⟨⟨_, _, rfl, rfl, Wk.rfl⟩, ?_⟩ | refine ⟨⟨_, _, accV_ren rfl, rfl, Wk.rfl⟩, ?_⟩ | refine ⟨⟨_, _, accV_ren rfl, rfl, Wk.acc0⟩, ?_⟩ | refine ⟨⟨_, _, rfl, rfl, Wk.uncap⟩, ?_⟩ | refine ⟨⟨_, _, rfl, rfl, Wk.nil⟩, ?_⟩))⟩ (by repeat' (first | exact True.intro | refine ⟨⟨_, _, _, rfl, rfl, rfl, WkO.rfl⟩, ?_⟩ | refine HeapOK.acc rfl rfl ?_ | refine HeapOK.es rfl rfl ?_)))
              · refine M.go rfl ?_
                refine M.dec rfl (fun h4 => ?_) (fun h4 => ?_)
                · refine M.go rfl (M.end [(0, 0)] rfl ⟨⟨_, _, rfl, rfl, Wk.b1 (by rw [hT]; simp [entB, h4])⟩, (by repeat' (first | exact True.intro | refine ⟨⟨_, _, rfl, rfl, Wk.rfl⟩, ?_⟩ | refine ⟨⟨_, _, accV_ren rfl, rfl, Wk.rfl⟩, ?_⟩ | refine ⟨⟨_, _, accV_ren rfl, rfl, Wk.acc0⟩, ?_⟩ | refine ⟨⟨_, _, rfl, rfl, Wk.uncap⟩, ?_⟩ | refine ⟨⟨_, _, rfl, rfl, Wk.nil⟩, ?_⟩))⟩ (by repeat' (first | exact True.intro | refine ⟨⟨_, _, _, rfl, rfl, rfl, WkO.rfl⟩, ?_⟩ | refine HeapOK.acc rfl rfl ?_ | refine HeapOK.es rfl rfl ?_)))
                · refine M.go rfl ?_
                  refine M.dec rfl (fun h5 => ?_) (fun h5 => ?_)
                  · refine M.go rfl (M.end [(0, 0)] rfl ⟨⟨_, _, rfl, rfl, Wk.b1 (by rw [hT]; simp [entB, h5])⟩, (by repeat' (first | exact True.intro | refine ⟨⟨_, _, rfl, rfl, Wk.rfl⟩, ?_⟩ | refine ⟨⟨_, _, accV_ren rfl, rfl, Wk.rfl⟩, ?_⟩ | refine ⟨⟨_, _, accV_ren rfl, rfl, Wk.acc0⟩, ?_⟩ | refine ⟨⟨_, _, rfl, rfl, Wk.uncap⟩, ?_⟩ | refine ⟨⟨_, _, rfl, rfl, Wk.nil⟩, ?_⟩))⟩ (by repeat' (first | exact True.intro | refine ⟨⟨_, _, _, rfl, rfl, rfl, WkO.rfl⟩, ?_⟩ | refine HeapOK.acc rfl rfl ?_ | refine HeapOK.es rfl rfl ?_)))
                  · refine M.go rfl ?_
                    refine M.dec rfl (fun h6 => ?_) (fun h6 => ?_)
                    · refine M.go rfl ?_
                      refine M.use0 rfl (members_spec e.z e.c e.d he.d) rfl rfl rfl ?_
                      refine M.go rfl (M.end [(0, 0)] rfl ⟨⟨_, _, rfl, rfl, Wk.b2 (by rw [hT]; simp [entB, h1, h2, h3, h4, h5, h6, nums, inP])⟩, (by repeat' (first | exact True.intro | refine ⟨⟨_, _, rfl, rfl, Wk.rfl⟩, ?_⟩ | refine ⟨⟨_, _, accV_ren rfl, rfl, Wk.rfl⟩, ?_⟩ | refine ⟨⟨_, _, accV_ren rfl, rfl, Wk.acc0⟩, ?_⟩ | refine ⟨⟨_, _, rfl, rfl, Wk.uncap⟩, ?_⟩ | refine ⟨⟨_, _, rfl, rfl, Wk.nil⟩, ?_⟩))⟩ (by repeat' (first | exact True.intro | refine ⟨⟨_, _, _, rfl, rfl, rfl, WkO.rfl⟩, ?_⟩ | refine HeapOK.acc rfl rfl ?_ | refine HeapOK.es rfl rfl ?_)))
                    · refine M.go rfl (M.end [(0, 0)] rfl ⟨⟨_, _, rfl, rfl, Wk.b1 (by rw [hT]; simp [entB, h1, h2, h3, h4, h5, h6])⟩, (by repeat' (first | exact True.intro | refine ⟨⟨_, _, rfl, rfl, Wk.rfl⟩, ?_⟩ | refine ⟨⟨_, _, accV_ren rfl, rfl, Wk.rfl⟩, ?_⟩ | refine ⟨⟨_, _, accV_ren rfl, rfl, Wk.acc0⟩, ?_⟩ | refine ⟨⟨_, _, rfl, rfl, Wk.uncap⟩, ?_⟩ | refine ⟨⟨_, _, rfl, rfl, Wk.nil⟩, ?_⟩))⟩ (by repeat' (first | exact True.intro | refine ⟨⟨_, _, _, rfl, rfl, rfl, WkO.rfl⟩, ?_⟩ | refine HeapOK.acc rfl rfl ?_ | refine HeapOK.es rfl rfl ?_)))
        · refine M.go rfl ?_
          refine M.condB rfl (fun hc => ?_) (fun hc => ?_)
          · refine M.go rfl ?_
            refine M.ren [] ?_ trivial rfl (by repeat' (first | exact True.intro | refine ⟨⟨_, _, rfl, rfl, Wk.rfl⟩, ?_⟩ | refine ⟨⟨_, _, accV_ren rfl, rfl, Wk.rfl⟩, ?_⟩ | refine ⟨⟨_, _, accV_ren rfl, rfl, Wk.acc0⟩, ?_⟩ | refine ⟨⟨_, _, rfl, rfl, Wk.uncap⟩, ?_⟩ | refine ⟨⟨_, _, rfl, rfl, Wk.nil⟩, ?_⟩)) (by repeat' (first | exact True.intro | refine ⟨⟨_, _, _, rfl, rfl, rfl, WkO.rfl⟩, ?_⟩ | refine HeapOK.acc rfl rfl ?_ | refine HeapOK.es rfl rfl ?_)) (e' := [(6, .c (.p (.bool false)))]) (h' := ⟨[], 0⟩)
            exact M.ret (M.go rfl (M.done (hr (by rw [hm]; rw [Bool.not_eq_true'] at hc; rw [hc]; rfl))))
          · refine M.go rfl ?_
            have hbb : T = true := by simpa using hc
            have h7 : e.ix = i + 1 := by rw [hT] at hbb; simp [entB] at hbb; exact hbb.1
            rw [hm, hbb, Bool.true_and] at hq hr
            have ih' := ih (pre ++ [e]) (i + 1) e.tm (by rw [hp]; simp) (by rw [← h7]; exact he.ix) hq hr
            have hw2 : IntKind.i64.wrap ((pre.length : Int) + 1) = ((pre ++ [e]).length : Int) := by rw [wr64 (by omega) (by omega)]; simp
            rw [hw2]
            exact M.again (XH.ren [] ih' rfl (by repeat' (first | exact True.intro | refine ⟨⟨_, _, rfl, rfl, Wk.rfl⟩, ?_⟩ | refine ⟨⟨_, _, accV_ren rfl, rfl, Wk.rfl⟩, ?_⟩ | refine ⟨⟨_, _, accV_ren rfl, rfl, Wk.acc0⟩, ?_⟩ | refine ⟨⟨_, _, rfl, rfl, Wk.uncap⟩, ?_⟩ | refine ⟨⟨_, _, rfl, rfl, Wk.nil⟩, ?_⟩)) (by repeat' (first | exact True.intro | refine ⟨⟨_, _, _, rfl, rfl, rfl, WkO.rfl⟩, ?_⟩ | refine HeapOK.acc rfl rfl ?_ | refine HeapOK.es rfl rfl ?_)))
    · rw [hlen] at hc; omega
theorem may_spec (z : Bool) (c : Option Nat) (l : List Ent) (i t : Int) (hl : l.length ≤ 100000000000) (hok : ∀ e ∈ l, e.ok) (hi : I64 i) : CallS Try.prog base 91 [.c (.p (.int .i64 i)), .c (.p (.int .i64 t)), .c (.p (.tz z 4 (entP l) c))] ⟨[], 0⟩ (.c (.p (.bs (mayF i t l)))) ⟨[], 0⟩ := by
  refine CallS.of noNG lMay.2 rfl (M.start (M.go rfl ?_))
  refine M.loop (XH.ren [] (may_loop z c l hl hok _ l [] i t rfl hi ?_ ?_) rfl (by repeat' (first | exact True.intro | refine ⟨⟨_, _, rfl, rfl, Wk.rfl⟩, ?_⟩ | refine ⟨⟨_, _, accV_ren rfl, rfl, Wk.rfl⟩, ?_⟩ | refine ⟨⟨_, _, accV_ren rfl, rfl, Wk.acc0⟩, ?_⟩ | refine ⟨⟨_, _, rfl, rfl, Wk.uncap⟩, ?_⟩ | refine ⟨⟨_, _, rfl, rfl, Wk.nil⟩, ?_⟩)) (by repeat' (first | exact True.intro | refine ⟨⟨_, _, _, rfl, rfl, rfl, WkO.rfl⟩, ?_⟩ | refine HeapOK.acc rfl rfl ?_ | refine HeapOK.es rfl rfl ?_)))
  · intro hm
    refine M.q (M.go rfl ?_)
    exact M.ret (M.go rfl (M.done (finQ.ret [] rfl rfl rfl (Wk.b1 hm) (by repeat' (first | exact True.intro | refine ⟨⟨_, _, _, rfl, rfl, rfl, WkO.rfl⟩, ?_⟩ | refine HeapOK.acc rfl rfl ?_ | refine HeapOK.es rfl rfl ?_)))))
  · intro hm
    refine M.q (M.go rfl ?_)
    exact M.done (finQ.ret [] rfl rfl rfl (Wk.b1 hm) (by repeat' (first | exact True.intro | refine ⟨⟨_, _, _, rfl, rfl, rfl, WkO.rfl⟩, ?_⟩ | refine HeapOK.acc rfl rfl ?_ | refine HeapOK.es rfl rfl ?_)))
end Go.Proofs.Yteegdhfekemhmaa

namespace Go.Proofs.Yteegdhfekemhmaa
open Go.RowKit Sim Go Sym
set_option maxRecDepth 100000
set_option linter.unusedVariables false
set_option linter.unusedSimpArgs false
variable {base : Nat}
instance : Inhabited Ent := ⟨⟨0, 0, 0, true, [], none⟩⟩
structure PLog where
  S : Snp
  E : List Ent
  z : Bool
  c : Option Nat
def PLog.row (L : PLog) : List XC := [.p (.int .i64 L.S.ix), .p (.int .i64 L.S.tm), .p (.tz L.S.cz 1 (inP L.S.cf) L.S.cc), .p (.tz L.S.dz 1 (byP L.S.d) L.S.dc), .p (.tz L.z 4 (entP L.E) L.c)]
def PLog.h (L : PLog) : HS := ⟨[(0, some (.row L.row true))], 1⟩
def PLog.last (L : PLog) : Int := L.S.ix + L.E.length
structure PLog.ok (L : PLog) : Prop where
  S : L.S.ok
  ix : 0 ≤ L.S.ix
  top : L.last ≤ 9223372036854775807
  len : L.E.length ≤ 10000000000
  E : ∀ e ∈ L.E, e.ok
theorem entP_len (l : List Ent) : (entP l).length = l.length := by simp [entP]
def PLog.at' (L : PLog) (i : Int) : Ent := L.E.getD (i - L.S.ix - 1).toNat default
/-! Base, Last. -/
noncomputable def lBase : {F : LF // lowerF Try.prog 37 = some F} := ⟨_, rfl⟩
theorem Base_spec (L : PLog) : CallS Try.prog base 37 [.c (.ptr 0 0)] L.h (.c (.p (.int .i64 L.S.ix))) L.h := by
  refine CallS.of noNG lBase.2 rfl (M.start (M.go rfl ?_))
  exact M.ret (M.go rfl (M.done (finQ.ret [(0, 0)] rfl rfl rfl (by first | exact Wk.rfl | exact Wk.uncap | exact Wk.nil | exact Wk.b1 rfl | exact Wk.t2 Wk.rfl (Wk.b1 rfl)) (by repeat' (first | exact True.intro | refine ⟨⟨_, _, _, rfl, rfl, rfl, WkO.rfl⟩, ?_⟩ | refine HeapOK.acc rfl rfl ?_ | refine HeapOK.es rfl rfl ?_)))))
noncomputable def lLast : {F : LF // lowerF Try.prog 39 = some F} := ⟨_, rfl⟩
theorem Last_spec (L : PLog) (hL : L.ok) : CallS Try.prog base 39 [.c (.ptr 0 0)] L.h (.c (.p (.int .i64 L.last))) L.h := by
  refine CallS.of noNG lLast.2 rfl (M.start (M.go rfl ?_))
  refine M.regD (MD.go rfl (MD.nil mixed (Fnl.nodup rfl) (M.go rfl ?_)))
  rw [show IntKind.i64.wrap (L.S.ix + ((entP L.E).length : Int)) = L.last by rw [entP_len]; exact wr64 (by have := hL.ix; omega) hL.top]
  exact M.ret (M.go rfl (M.done (finQ.ret [(0, 0)] rfl rfl rfl (by first | exact Wk.rfl | exact Wk.uncap | exact Wk.nil | exact Wk.b1 rfl | exact Wk.t2 Wk.rfl (Wk.b1 rfl)) (by repeat' (first | exact True.intro | refine ⟨⟨_, _, _, rfl, rfl, rfl, WkO.rfl⟩, ?_⟩ | refine HeapOK.acc rfl rfl ?_ | refine HeapOK.es rfl rfl ?_)))))
/-! Term. -/
noncomputable def lTerm : {F : LF // lowerF Try.prog 40 = some F} := ⟨_, rfl⟩
def PLog.term (L : PLog) (i : Int) : Int × Bool := if i = L.S.ix then (L.S.tm, true) else if i ≤ L.S.ix ∨ L.last < i then (0, false) else ((L.at' i).tm, true)
theorem PLog.at_get {L : PLog} {i : Int} (h1 : L.S.ix < i) (h2 : i ≤ L.last) : ∃ j : Nat, (j : Int) = i - L.S.ix - 1 ∧ j < L.E.length ∧ L.E[j]? = some (L.at' i) ∧ (entP L.E)[(i - L.S.ix - 1).toNat]? = some (L.at' i).pc := by
  have hj : (i - L.S.ix - 1).toNat < L.E.length := by unfold PLog.last at h2; omega
  have : L.E[(i - L.S.ix - 1).toNat]? = some (L.at' i) := by
    unfold PLog.at'
    rw [List.getD_eq_getElem?_getD, List.getElem?_eq_getElem hj]; rfl
  exact ⟨(i - L.S.ix - 1).toNat, by omega, hj, this, by rw [entP, List.getElem?_map, this]; rfl⟩
theorem Term_spec (L : PLog) (hL : L.ok) (i : Int) (hi : I64 i) : CallS Try.prog base 40 [.c (.ptr 0 0), .c (.p (.int .i64 i))] L.h (.tup [.c (.p (.int .i64 (L.term i).1)), .c (.p (.bs (L.term i).2))]) L.h := by
  refine CallS.of noNG lTerm.2 rfl (M.start (M.go rfl ?_))
  refine M.cond rfl (fun h1 => ?_) (fun h1 => ?_)
  · refine M.go rfl ?_
    rw [show L.term i = (L.S.tm, true) from if_pos h1]
    exact M.ret (M.go rfl (M.done (finQ.ret [(0, 0)] rfl rfl rfl (by first | exact Wk.rfl | exact Wk.uncap | exact Wk.nil | exact Wk.b1 rfl | exact Wk.t2 Wk.rfl (Wk.b1 rfl)) (by repeat' (first | exact True.intro | refine ⟨⟨_, _, _, rfl, rfl, rfl, WkO.rfl⟩, ?_⟩ | refine HeapOK.acc rfl rfl ?_ | refine HeapOK.es rfl rfl ?_)))))
  · refine M.go rfl ?_
    have e1 : L.term i = if i ≤ L.S.ix ∨ L.last < i then (0, false) else ((L.at' i).tm, true) := if_neg h1
    refine M.dec rfl (fun h2 => ?_) (fun h2 => ?_)
    · refine M.go rfl ?_
      rw [e1, if_pos (.inl h2)]
      exact M.ret (M.go rfl (M.done (finQ.ret [(0, 0)] rfl rfl rfl (by first | exact Wk.rfl | exact Wk.uncap | exact Wk.nil | exact Wk.b1 rfl | exact Wk.t2 Wk.rfl (Wk.b1 rfl)) (by repeat' (first | exact True.intro | refine ⟨⟨_, _, _, rfl, rfl, rfl, WkO.rfl⟩, ?_⟩ | refine HeapOK.acc rfl rfl ?_ | refine HeapOK.es rfl rfl ?_)))))
    · refine M.go rfl ?_
      refine M.use (by first | exact True.intro | exact rfl) (Last_spec L hL) [(0, 0)] rfl rfl rfl (by repeat' (first | exact True.intro | refine ⟨⟨_, _, _, rfl, rfl, rfl, WkO.rfl⟩, ?_⟩ | refine HeapOK.acc rfl rfl ?_ | refine HeapOK.es rfl rfl ?_)) rfl rfl ?_
      refine M.go rfl ?_
      refine M.cond rfl (fun h3 => ?_) (fun h3 => ?_)
      · refine M.go rfl ?_
        rw [e1, if_pos (.inr h3)]
        exact M.ret (M.go rfl (M.done (finQ.ret [(0, 0)] rfl rfl rfl (by first | exact Wk.rfl | exact Wk.uncap | exact Wk.nil | exact Wk.b1 rfl | exact Wk.t2 Wk.rfl (Wk.b1 rfl)) (by repeat' (first | exact True.intro | refine ⟨⟨_, _, _, rfl, rfl, rfl, WkO.rfl⟩, ?_⟩ | refine HeapOK.acc rfl rfl ?_ | refine HeapOK.es rfl rfl ?_)))))
      · refine M.go rfl ?_
        rw [e1, if_neg (by omega)]
        obtain ⟨j, h4, h5, h6, h7⟩ := PLog.at_get (L := L) (i := i) (by omega) (by omega)
        have hw : IntKind.i64.wrap (IntKind.i64.wrap (i - L.S.ix) - 1) = i - L.S.ix - 1 := by
          rw [wr64 (n := i - L.S.ix) (by omega) (by have := hL.ix; have := hi.2; omega), wr64 (by omega) (by have := hL.ix; have := hi.2; omega)]
        refine M.regD (MD.go rfl ?_)
        rw [hw]
        refine MD.op trivial (SOp.ia rfl rfl (by omega) h7) (MD.go rfl ?_)
        refine MD.op trivial (SOp.ld1e rfl h7 rfl rfl rfl) (MD.go rfl (MD.nil mixed (Fnl.nodup rfl) (M.go rfl ?_)))
        exact M.ret (M.go rfl (M.done (finQ.ret [(0, 0)] rfl rfl rfl (by first | exact Wk.rfl | exact Wk.uncap | exact Wk.nil | exact Wk.b1 rfl | exact Wk.t2 Wk.rfl (Wk.b1 rfl)) (by repeat' (first | exact True.intro | refine ⟨⟨_, _, _, rfl, rfl, rfl, WkO.rfl⟩, ?_⟩ | refine HeapOK.acc rfl rfl ?_ | refine HeapOK.es rfl rfl ?_)))))
/-! Get. -/
noncomputable def lGet : {F : LF // lowerF Try.prog 41 = some F} := ⟨_, rfl⟩
def PLog.get (L : PLog) (i : Int) : Ent × Bool := if i ≤ L.S.ix ∨ L.last < i then (default, false) else ((L.at' i).own, true)
theorem PLog.ok.wrap {L : PLog} (hL : L.ok) {i : Int} (hi : I64 i) (h1 : L.S.ix < i) : IntKind.i64.wrap (IntKind.i64.wrap (i - L.S.ix) - 1) = i - L.S.ix - 1 := by
  have := hL.ix; have := hi.2
  rw [wr64 (n := i - L.S.ix) (by omega) (by omega), wr64 (by omega) (by omega)]
theorem PLog.ok.at_ {L : PLog} (hL : L.ok) {i : Int} {j : Nat} (h : L.E[j]? = some (L.at' i)) : (L.at' i).ok := hL.E _ (List.mem_of_getElem? h)
theorem Get_spec (L : PLog) (hL : L.ok) (i : Int) (hi : I64 i) : CallS Try.prog base 41 [.c (.ptr 0 0), .c (.p (.int .i64 i))] L.h (.tup [(L.get i).1.v, .c (.p (.bs (L.get i).2))]) L.h := by
  refine CallS.of noNG lGet.2 rfl (M.start (M.go rfl ?_))
  have e0 : ∀ v : XV, Wk (.tup [.agg [.p (.int .i64 0), .p (.int .i64 0), .p (.int .i64 0), .p (.tz true 0 [] none)], .c (.p (.bool false))]) (.tup [(default : Ent).v, .c (.p (.bs false))]) := fun _ => Wk.t2 (Wk.agg ⟨Wk.rfl, Wk.rfl, Wk.rfl, Wk.nil, trivial⟩) (Wk.b1 rfl)
  refine M.dec rfl (fun h2 => ?_) (fun h2 => ?_)
  · refine M.go rfl ?_
    rw [show L.get i = (default, false) from if_pos (.inl h2)]
    exact M.ret (M.go rfl (M.done (finQ.ret [(0, 0)] rfl rfl rfl (e0 (.tup [])) (by repeat' (first | exact True.intro | refine ⟨⟨_, _, _, rfl, rfl, rfl, WkO.rfl⟩, ?_⟩ | refine HeapOK.acc rfl rfl ?_ | refine HeapOK.es rfl rfl ?_)))))
  · refine M.go rfl ?_
    refine M.use (by first | exact True.intro | exact rfl) (Last_spec L hL) [(0, 0)] rfl rfl rfl (by repeat' (first | exact True.intro | refine ⟨⟨_, _, _, rfl, rfl, rfl, WkO.rfl⟩, ?_⟩ | refine HeapOK.acc rfl rfl ?_ | refine HeapOK.es rfl rfl ?_)) rfl rfl ?_
    refine M.go rfl ?_
    refine M.cond rfl (fun h3 => ?_) (fun h3 => ?_)
    · refine M.go rfl ?_
      rw [show L.get i = (default, false) from if_pos (.inr h3)]
      exact M.ret (M.go rfl (M.done (finQ.ret [(0, 0)] rfl rfl rfl (e0 (.tup [])) (by repeat' (first | exact True.intro | refine ⟨⟨_, _, _, rfl, rfl, rfl, WkO.rfl⟩, ?_⟩ | refine HeapOK.acc rfl rfl ?_ | refine HeapOK.es rfl rfl ?_)))))
    · refine M.go rfl ?_
      rw [show L.get i = ((L.at' i).own, true) from if_neg (by omega)]
      obtain ⟨j, h4, h5, h6, h7⟩ := PLog.at_get (L := L) (i := i) (by omega) (by omega)
      refine M.regD (MD.go rfl ?_)
      rw [hL.wrap hi (by omega)]
      refine MD.op trivial (SOp.ia rfl rfl (by omega) h7) (MD.go rfl ?_)
      refine MD.op trivial (SOp.ldne rfl h7 rfl rfl rfl) (MD.go rfl ?_)
      refine MD.use0 trivial (own_spec (L.at' i) (hL.at_ h6).d) rfl rfl rfl (MD.go rfl (MD.nil mixed (Fnl.nodup rfl) (M.go rfl ?_)))
      exact M.ret (M.go rfl (M.done (finQ.ret [(0, 0)] rfl rfl rfl (by first | exact Wk.rfl | exact Wk.uncap | exact Wk.nil | exact Wk.b1 rfl | exact Wk.t2 Wk.rfl (Wk.b1 rfl)) (by repeat' (first | exact True.intro | refine ⟨⟨_, _, _, rfl, rfl, rfl, WkO.rfl⟩, ?_⟩ | refine HeapOK.acc rfl rfl ?_ | refine HeapOK.es rfl rfl ?_)))))
/-! Slice. -/
noncomputable def lSlice : {F : LF // lowerF Try.prog 42 = some F} := ⟨_, rfl⟩
def PLog.slice (L : PLog) (f n : Int) : List Ent := if f ≤ L.S.ix ∨ L.last < f ∨ n < 1 then [] else ((L.E.drop (f - L.S.ix - 1).toNat).take n.toNat).map Ent.own
theorem slice_loop (L : PLog) (z : Bool) (c : Option Nat) (l : List Ent) (n : Int) (hn : 1 ≤ n) (hl : l.length ≤ 10000000000) (hok : ∀ e ∈ l, e.ok) (Q : QX) (hq : Q (.exit 0) [(7, accV 1 4 (entP ((l.take n.toNat).map Ent.own)))] ⟨[(1, accO 4 (entP ((l.take n.toNat).map Ent.own))), (0, some (.row L.row true))], 2⟩) :
    ∀ (rest pre : List Ent), l = pre ++ rest → (pre.length : Int) ≤ n → XH Try.prog base lSlice.1.n 1 (lSlice.1.c.lp 0) [(43, .c (.p (.tz z 4 (entP l) c))), (44, .c (.p (.int .i64 (entP l).length))), (45, .c (.p (.int .i64 pre.length))), (7, accV 1 4 (entP (pre.map Ent.own))), (2, .c (.p (.int .i64 n)))] ⟨[(1, accO 4 (entP (pre.map Ent.own))), (0, some (.row L.row true))], 2⟩ Q := by
  intro rest
  induction rest with
  | nil =>
    intro pre hp hn2
    refine M.round (M.go rfl ?_)
    simp at hp
    subst hp
    refine M.cond rfl (fun hc => ?_) (fun hc => ?_)
    · simp [entP] at hc
    · rw [List.take_of_length_le (by omega)] at hq
      refine M.ren [(0, 0), (1, 1)] ?_ trivial rfl (by repeat' (first | exact True.intro | refine ⟨⟨_, _, rfl, rfl, Wk.rfl⟩, ?_⟩ | refine ⟨⟨_, _, accV_ren rfl, rfl, Wk.rfl⟩, ?_⟩ | refine ⟨⟨_, _, accV_ren rfl, rfl, Wk.acc0⟩, ?_⟩ | refine ⟨⟨_, _, rfl, rfl, Wk.uncap⟩, ?_⟩ | refine ⟨⟨_, _, rfl, rfl, Wk.nil⟩, ?_⟩)) (by repeat' (first | exact True.intro | refine ⟨⟨_, _, _, rfl, rfl, rfl, WkO.rfl⟩, ?_⟩ | refine HeapOK.acc rfl rfl ?_ | refine HeapOK.es rfl rfl ?_)) (e' := [(7, accV 1 4 (entP (l.map Ent.own)))]) (h' := ⟨[(1, accO 4 (entP (l.map Ent.own))), (0, some (.row L.row true))], 2⟩)
      exact M.exit (M.go rfl (M.done hq))
  | cons e rest ih =>
    intro pre hp hn2
    have he : e.ok := hok e (by rw [hp]; simp)
    have hlen : (entP l).length = pre.length + (rest.length + 1) := by rw [hp]; simp [entP]
    have hll : pre.length + rest.length < 10000000000 := by rw [hp] at hl; simp at hl; omega
    refine M.round (M.go rfl ?_)
    refine M.cond rfl (fun hc => ?_) (fun hc => ?_)
    · refine M.go rfl ?_
      have hu : (entP l)[((pre.length : Int)).toNat]? = some e.pc := by rw [hp]; exact at_app _ _ _ _
      refine M.op trivial (SOp.ia rfl rfl (by omega) hu) ?_
      refine M.op trivial (SOp.ldne rfl hu rfl rfl rfl) ?_
      refine M.go rfl ?_
      have hla : (entP (pre.map Ent.own)).length = pre.length := by simp [entP]
      rw [hla]
      refine M.cond rfl (fun h0 => ?_) (fun h0 => ?_)
      · have : l.take n.toNat = pre := by rw [hp, ← h0]; simp
        rw [this] at hq
        refine M.ren [(0, 0), (1, 1)] ?_ trivial rfl (by repeat' (first | exact True.intro | refine ⟨⟨_, _, rfl, rfl, Wk.rfl⟩, ?_⟩ | refine ⟨⟨_, _, accV_ren rfl, rfl, Wk.rfl⟩, ?_⟩ | refine ⟨⟨_, _, accV_ren rfl, rfl, Wk.acc0⟩, ?_⟩ | refine ⟨⟨_, _, rfl, rfl, Wk.uncap⟩, ?_⟩ | refine ⟨⟨_, _, rfl, rfl, Wk.nil⟩, ?_⟩)) (by repeat' (first | exact True.intro | refine ⟨⟨_, _, _, rfl, rfl, rfl, WkO.rfl⟩, ?_⟩ | refine HeapOK.acc rfl rfl ?_ | refine HeapOK.es rfl rfl ?_)) (e' := [(7, accV 1 4 (entP (pre.map Ent.own)))]) (h' := ⟨[(1, accO 4 (entP (pre.map Ent.own))), (0, some (.row L.row true))], 2⟩)
        exact M.exit (M.go rfl (M.done hq))
      · refine M.go rfl ?_
        refine M.use0 trivial (own_spec e he.d) rfl rfl rfl ?_
        refine M.go rfl ?_
        refine M.acc trivial rfl rfl rfl (.own rfl rfl) (by simp) (by rw [hla]; simp; omega) ?_
        refine M.go rfl ?_
        have hw2 : IntKind.i64.wrap ((pre.length : Int) + 1) = ((pre ++ [e]).length : Int) := by rw [wr64 (by omega) (by omega)]; simp
        rw [hw2]
        have ih' := ih (pre ++ [e]) (by rw [hp]; simp) (by simp; omega)
        rw [show entP ((pre ++ [e]).map Ent.own) = entP (pre.map Ent.own) ++ [e.own.pc] by simp [entP]] at ih'
        exact M.again (XH.ren [(0, 0), (1, 4)] ih' rfl (by repeat' (first | exact True.intro | refine ⟨⟨_, _, rfl, rfl, Wk.rfl⟩, ?_⟩ | refine ⟨⟨_, _, accV_ren rfl, rfl, Wk.rfl⟩, ?_⟩ | refine ⟨⟨_, _, accV_ren rfl, rfl, Wk.acc0⟩, ?_⟩ | refine ⟨⟨_, _, rfl, rfl, Wk.uncap⟩, ?_⟩ | refine ⟨⟨_, _, rfl, rfl, Wk.nil⟩, ?_⟩)) (by repeat' (first | exact True.intro | refine ⟨⟨_, _, _, rfl, rfl, rfl, WkO.rfl⟩, ?_⟩ | refine HeapOK.acc rfl rfl ?_ | refine HeapOK.es rfl rfl ?_)))
    · rw [hlen] at hc; omega
theorem Slice_spec (L : PLog) (hL : L.ok) (f n : Int) (hf : I64 f) : CallS Try.prog base 42 [.c (.ptr 0 0), .c (.p (.int .i64 f)), .c (.p (.int .i64 n))] L.h (.c (.p (.tz true 4 (entP (L.slice f n)) none))) L.h := by
  refine CallS.of noNG lSlice.2 rfl (M.start (M.go rfl ?_))
  refine M.dec rfl (fun h2 => ?_) (fun h2 => ?_)
  · refine M.go rfl ?_
    rw [show L.slice f n = [] from if_pos (.inl h2)]
    exact M.ret (M.go rfl (M.done (finQ.ret [(0, 0)] rfl rfl rfl Wk.nil (by repeat' (first | exact True.intro | refine ⟨⟨_, _, _, rfl, rfl, rfl, WkO.rfl⟩, ?_⟩ | refine HeapOK.acc rfl rfl ?_ | refine HeapOK.es rfl rfl ?_)))))
  · refine M.go rfl ?_
    refine M.use (by first | exact True.intro | exact rfl) (Last_spec L hL) [(0, 0)] rfl rfl rfl (by repeat' (first | exact True.intro | refine ⟨⟨_, _, _, rfl, rfl, rfl, WkO.rfl⟩, ?_⟩ | refine HeapOK.acc rfl rfl ?_ | refine HeapOK.es rfl rfl ?_)) rfl rfl ?_
    refine M.go rfl ?_
    refine M.dec rfl (fun h3 => ?_) (fun h3 => ?_)
    · refine M.go rfl ?_
      rw [show L.slice f n = [] from if_pos (.inr (.inl h3))]
      exact M.ret (M.go rfl (M.done (finQ.ret [(0, 0)] rfl rfl rfl Wk.nil (by repeat' (first | exact True.intro | refine ⟨⟨_, _, _, rfl, rfl, rfl, WkO.rfl⟩, ?_⟩ | refine HeapOK.acc rfl rfl ?_ | refine HeapOK.es rfl rfl ?_)))))
    · refine M.go rfl ?_
      refine M.cond rfl (fun h8 => ?_) (fun h8 => ?_)
      · refine M.go rfl ?_
        rw [show L.slice f n = [] from if_pos (.inr (.inr h8))]
        exact M.ret (M.go rfl (M.done (finQ.ret [(0, 0)] rfl rfl rfl Wk.nil (by repeat' (first | exact True.intro | refine ⟨⟨_, _, _, rfl, rfl, rfl, WkO.rfl⟩, ?_⟩ | refine HeapOK.acc rfl rfl ?_ | refine HeapOK.es rfl rfl ?_)))))
      · refine M.go rfl ?_
        rw [show L.slice f n = ((L.E.drop (f - L.S.ix - 1).toNat).take n.toNat).map Ent.own from if_neg (by omega)]
        refine M.regD (MD.go rfl ?_)
        rw [hL.wrap hf (by omega)]
        have hle : (f - L.S.ix - 1).toNat ≤ (entP L.E).length := by rw [entP_len]; have := hL.ix; unfold PLog.last at h3; omega
        refine MD.op trivial (SOp.sl rfl ⟨_, _, rfl, by omega, rfl⟩ rfl hle (Nat.le_refl _)) (MD.go rfl (MD.nil mixed (Fnl.nodup rfl) (M.go rfl ?_)))
        have hd : ((entP L.E).drop (f - L.S.ix - 1).toNat).take ((entP L.E).length - (f - L.S.ix - 1).toNat) = entP (L.E.drop (f - L.S.ix - 1).toNat) := by rw [List.take_of_length_le (by simp), entP, entP, List.map_drop]
        rw [hd]
        have hl := slice_loop (base := base) L (L.z && (entP L.E).isEmpty) (L.c.map (· - (f - L.S.ix - 1).toNat)) (L.E.drop (f - L.S.ix - 1).toNat) n (by omega) (by have := hL.len; simp; omega) (fun e he => hL.E e (List.mem_of_mem_drop he))
        refine M.loop (XH.ren [(0, 0), (1, 1)] (hl _ ?_ _ [] rfl (by simp; omega)) rfl (by repeat' (first | exact True.intro | refine ⟨⟨_, _, rfl, rfl, Wk.rfl⟩, ?_⟩ | refine ⟨⟨_, _, accV_ren rfl, rfl, Wk.rfl⟩, ?_⟩ | refine ⟨⟨_, _, accV_ren rfl, rfl, Wk.acc0⟩, ?_⟩ | refine ⟨⟨_, _, rfl, rfl, Wk.uncap⟩, ?_⟩ | refine ⟨⟨_, _, rfl, rfl, Wk.nil⟩, ?_⟩)) (by repeat' (first | exact True.intro | refine ⟨⟨_, _, _, rfl, rfl, rfl, WkO.rfl⟩, ?_⟩ | refine HeapOK.acc rfl rfl ?_ | refine HeapOK.es rfl rfl ?_)))
        refine M.q (M.go rfl ?_)
        refine M.accF (i := 6) rfl rfl ?_
        exact M.ret (M.go rfl (M.done (finQ.ret [(0, 0)] rfl rfl rfl (by first | exact Wk.rfl | exact Wk.uncap | exact Wk.nil | exact Wk.b1 rfl | exact Wk.t2 Wk.rfl (Wk.b1 rfl)) (by repeat' (first | exact True.intro | refine ⟨⟨_, _, _, rfl, rfl, rfl, WkO.rfl⟩, ?_⟩ | refine HeapOK.acc rfl rfl ?_ | refine HeapOK.es rfl rfl ?_)))))
/-! The members. -/
noncomputable def lConfAt : {F : LF // lowerF Try.prog 33 = some F} := ⟨_, rfl⟩
def natI (l : List Nat) : List Int := l.map fun (b : Nat) => (b : Int)
def PLog.confN (L : PLog) : Nat → Bool × List Int
  | 0 => (L.S.cz, L.S.cf)
  | j + 1 => if (L.E.getD j default).kd = 3 then (true, natI (memL (L.E.getD j default).d)) else L.confN j
def PLog.confAt (L : PLog) (i : Int) : Bool × List Int := L.confN (min i L.last - L.S.ix).toNat
def confV (c : Bool × List Int) : XV := .c (.p (.tz c.1 1 (inP c.2) none))
theorem conf_loop (L : PLog) (hL : L.ok) (Q : QX) :
    ∀ (j : Nat) (v : Int), (v = L.S.ix + j ∨ v < L.S.ix ∧ j = 0) → I64 v → j ≤ L.E.length → (∀ c, L.confN j = c → c = (L.S.cz, L.S.cf) → Q (.exit 0) [(0, .c (.ptr 0 0))] L.h) → (∀ c, L.confN j = c → Q .ret [(4, confV c)] L.h) → XH Try.prog base lConfAt.1.n 1 (lConfAt.1.c.lp 0) [(0, .c (.ptr 0 0)), (5, .c (.p (.int .i64 v)))] L.h Q := by
  intro j
  induction j with
  | zero =>
    intro v hv hi hj hq hr
    refine M.round (M.go rfl ?_)
    refine M.cond rfl (fun hc => ?_) (fun hc => ?_)
    · omega
    · refine M.ren [(0, 0)] ?_ trivial rfl (by repeat' (first | exact True.intro | refine ⟨⟨_, _, rfl, rfl, Wk.rfl⟩, ?_⟩ | refine ⟨⟨_, _, accV_ren rfl, rfl, Wk.rfl⟩, ?_⟩ | refine ⟨⟨_, _, accV_ren rfl, rfl, Wk.acc0⟩, ?_⟩ | refine ⟨⟨_, _, rfl, rfl, Wk.uncap⟩, ?_⟩ | refine ⟨⟨_, _, rfl, rfl, Wk.nil⟩, ?_⟩)) (by repeat' (first | exact True.intro | refine ⟨⟨_, _, _, rfl, rfl, rfl, WkO.rfl⟩, ?_⟩ | refine HeapOK.acc rfl rfl ?_ | refine HeapOK.es rfl rfl ?_)) (e' := [(0, .c (.ptr 0 0))]) (h' := L.h)
      exact M.exit (M.go rfl (M.done (hq _ rfl rfl)))
  | succ j ih =>
    intro v hv hi hj hq hr
    have hv' : v = L.S.ix + (j + 1 : Nat) := by omega
    have h1 : L.S.ix < v := by omega
    have h2 : v ≤ L.last := by unfold PLog.last; omega
    obtain ⟨j', h4, h5, h6, h7⟩ := PLog.at_get h1 h2
    have hjj : j' = j := by omega
    subst hjj
    have he := hL.at_ h6
    have hg : L.E.getD j' default = L.at' v := by rw [List.getD_eq_getElem?_getD, h6]; rfl
    refine M.round (M.go rfl ?_)
    refine M.cond rfl (fun hc => ?_) (fun hc => ?_)
    · refine M.go rfl ?_
      refine M.regF (MF.go rfl ?_)
      rw [hL.wrap hi h1]
      refine MF.op trivial (SOp.ia rfl rfl (by omega) h7) (MF.go rfl ?_)
      refine MF.op trivial (SOp.ldne rfl h7 rfl rfl rfl) (MF.go rfl ?_)
      refine MF.nil mixed (Fnl.nodup rfl) rfl ⟨⟨stepX_ok rfl, trivial⟩, ⟨stepX_ok rfl, trivial⟩, ⟨.ldne rfl h7 rfl rfl rfl, trivial⟩, trivial⟩ ?_
      refine M.go rfl ?_
      refine M.cond rfl (fun h8 => ?_) (fun h8 => ?_)
      · refine M.go rfl ?_
        refine M.use0 trivial (members_spec (L.at' v).z (L.at' v).c (L.at' v).d he.d) rfl rfl rfl ?_
        refine M.go rfl ?_
        refine M.ren [(0, 0)] ?_ trivial rfl (by repeat' (first | exact True.intro | refine ⟨⟨_, _, rfl, rfl, Wk.rfl⟩, ?_⟩ | refine ⟨⟨_, _, accV_ren rfl, rfl, Wk.rfl⟩, ?_⟩ | refine ⟨⟨_, _, accV_ren rfl, rfl, Wk.acc0⟩, ?_⟩ | refine ⟨⟨_, _, rfl, rfl, Wk.uncap⟩, ?_⟩ | refine ⟨⟨_, _, rfl, rfl, Wk.nil⟩, ?_⟩)) (by repeat' (first | exact True.intro | refine ⟨⟨_, _, _, rfl, rfl, rfl, WkO.rfl⟩, ?_⟩ | refine HeapOK.acc rfl rfl ?_ | refine HeapOK.es rfl rfl ?_)) (e' := [(4, confV (true, natI (memL (L.at' v).d)))]) (h' := L.h)
        refine M.ret (M.go rfl (M.done (hr _ ?_)))
        rw [PLog.confN, hg, if_pos h8]
      · refine M.go rfl ?_
        have hw : IntKind.i64.wrap (v - 1) = v - 1 := wr64 (by have := hL.ix; omega) (by have := hi.2; omega)
        rw [hw]
        have hc2 : L.confN (j' + 1) = L.confN j' := by rw [PLog.confN, hg, if_neg h8]
        rw [hc2] at hq hr
        exact M.again (XH.ren [(0, 0)] (ih (v - 1) (by omega) ⟨by have := hL.ix; omega, by have := hi.2; omega⟩ (by omega) hq hr) rfl (by repeat' (first | exact True.intro | refine ⟨⟨_, _, rfl, rfl, Wk.rfl⟩, ?_⟩ | refine ⟨⟨_, _, accV_ren rfl, rfl, Wk.rfl⟩, ?_⟩ | refine ⟨⟨_, _, accV_ren rfl, rfl, Wk.acc0⟩, ?_⟩ | refine ⟨⟨_, _, rfl, rfl, Wk.uncap⟩, ?_⟩ | refine ⟨⟨_, _, rfl, rfl, Wk.nil⟩, ?_⟩)) (by repeat' (first | exact True.intro | refine ⟨⟨_, _, _, rfl, rfl, rfl, WkO.rfl⟩, ?_⟩ | refine HeapOK.acc rfl rfl ?_ | refine HeapOK.es rfl rfl ?_)))
    · omega
theorem ConfAt_spec (L : PLog) (hL : L.ok) (i : Int) (hi : I64 i) : CallS Try.prog base 33 [.c (.ptr 0 0), .c (.p (.int .i64 i))] L.h (confV (L.confAt i)) L.h := by
  refine CallS.of noNG lConfAt.2 rfl (M.start (M.go rfl ?_))
  refine M.use (by first | exact True.intro | exact rfl) (Last_spec L hL) [(0, 0)] rfl rfl rfl (by repeat' (first | exact True.intro | refine ⟨⟨_, _, _, rfl, rfl, rfl, WkO.rfl⟩, ?_⟩ | refine HeapOK.acc rfl rfl ?_ | refine HeapOK.es rfl rfl ?_)) rfl rfl ?_
  refine M.go rfl ?_
  rw [minI_eq]
  have h0 := hL.ix
  have h1 := hL.top
  refine M.loop (XH.ren [(0, 0)] (conf_loop L hL _ (min i L.last - L.S.ix).toNat (min i L.last) (by omega) ⟨by have := hi.1; unfold PLog.last at *; omega, by omega⟩ (by unfold PLog.last; omega) ?_ ?_) rfl (by repeat' (first | exact True.intro | refine ⟨⟨_, _, rfl, rfl, Wk.rfl⟩, ?_⟩ | refine ⟨⟨_, _, accV_ren rfl, rfl, Wk.rfl⟩, ?_⟩ | refine ⟨⟨_, _, accV_ren rfl, rfl, Wk.acc0⟩, ?_⟩ | refine ⟨⟨_, _, rfl, rfl, Wk.uncap⟩, ?_⟩ | refine ⟨⟨_, _, rfl, rfl, Wk.nil⟩, ?_⟩)) (by repeat' (first | exact True.intro | refine ⟨⟨_, _, _, rfl, rfl, rfl, WkO.rfl⟩, ?_⟩ | refine HeapOK.acc rfl rfl ?_ | refine HeapOK.es rfl rfl ?_)))
  · intro c hc hcc
    refine M.q (M.go rfl ?_)
    refine M.use0 trivial (Icl_spec L.S.cz (inP L.S.cf) L.S.cc (by have := hL.S.cf.1; rw [inP_len]; omega)) rfl rfl rfl ?_
    refine M.go rfl ?_
    rw [show L.confAt i = (L.S.cz, L.S.cf) from hc.trans hcc]
    exact M.ret (M.go rfl (M.done (finQ.ret [(0, 0)] rfl rfl rfl (by first | exact Wk.rfl | exact Wk.uncap | exact Wk.nil | exact Wk.b1 rfl | exact Wk.t2 Wk.rfl (Wk.b1 rfl)) (by repeat' (first | exact True.intro | refine ⟨⟨_, _, _, rfl, rfl, rfl, WkO.rfl⟩, ?_⟩ | refine HeapOK.acc rfl rfl ?_ | refine HeapOK.es rfl rfl ?_)))))
  · intro c hc
    refine M.q (M.go rfl ?_)
    rw [show L.confAt i = c from hc]
    exact M.done (finQ.ret [(0, 0)] rfl rfl rfl Wk.rfl (by repeat' (first | exact True.intro | refine ⟨⟨_, _, _, rfl, rfl, rfl, WkO.rfl⟩, ?_⟩ | refine HeapOK.acc rfl rfl ?_ | refine HeapOK.es rfl rfl ?_)))
noncomputable def lConf : {F : LF // lowerF Try.prog 36 = some F} := ⟨_, rfl⟩
theorem Conf_spec (L : PLog) (hL : L.ok) : CallS Try.prog base 36 [.c (.ptr 0 0)] L.h (confV (L.confAt L.last)) L.h := by
  refine CallS.of noNG lConf.2 rfl (M.start (M.go rfl ?_))
  refine M.use (by first | exact True.intro | exact rfl) (Last_spec L hL) [(0, 0)] rfl rfl rfl (by repeat' (first | exact True.intro | refine ⟨⟨_, _, _, rfl, rfl, rfl, WkO.rfl⟩, ?_⟩ | refine HeapOK.acc rfl rfl ?_ | refine HeapOK.es rfl rfl ?_)) rfl rfl ?_
  refine M.go rfl ?_
  refine M.use (by first | exact True.intro | exact rfl) (ConfAt_spec L hL L.last ⟨by have := hL.ix; unfold PLog.last; omega, hL.top⟩) [(0, 0)] rfl rfl rfl (by repeat' (first | exact True.intro | refine ⟨⟨_, _, _, rfl, rfl, rfl, WkO.rfl⟩, ?_⟩ | refine HeapOK.acc rfl rfl ?_ | refine HeapOK.es rfl rfl ?_)) rfl rfl ?_
  refine M.go rfl ?_
  exact M.ret (M.go rfl (M.done (finQ.ret [(0, 0)] rfl rfl rfl (by first | exact Wk.rfl | exact Wk.uncap | exact Wk.nil | exact Wk.b1 rfl | exact Wk.t2 Wk.rfl (Wk.b1 rfl)) (by repeat' (first | exact True.intro | refine ⟨⟨_, _, _, rfl, rfl, rfl, WkO.rfl⟩, ?_⟩ | refine HeapOK.acc rfl rfl ?_ | refine HeapOK.es rfl rfl ?_)))))
noncomputable def lSnap : {F : LF // lowerF Try.prog 35 = some F} := ⟨_, rfl⟩
theorem Snap_spec (L : PLog) (hL : L.ok) : CallS Try.prog base 35 [.c (.ptr 0 0)] L.h L.S.own.v L.h := by
  refine CallS.of noNG lSnap.2 rfl (M.start (M.go rfl ?_))
  refine M.use0 trivial (ownS_spec L.S hL.S) rfl rfl rfl ?_
  refine M.go rfl ?_
  exact M.ret (M.go rfl (M.done (finQ.ret [(0, 0)] rfl rfl rfl (by first | exact Wk.rfl | exact Wk.uncap | exact Wk.nil | exact Wk.b1 rfl | exact Wk.t2 Wk.rfl (Wk.b1 rfl)) (by repeat' (first | exact True.intro | refine ⟨⟨_, _, _, rfl, rfl, rfl, WkO.rfl⟩, ?_⟩ | refine HeapOK.acc rfl rfl ?_ | refine HeapOK.es rfl rfl ?_)))))
end Go.Proofs.Yteegdhfekemhmaa

namespace Go.Proofs.Yteegdhfekemhmaa
open Go.RowKit Sim Go Sym
set_option maxRecDepth 100000
set_option linter.unusedVariables false
set_option linter.unusedSimpArgs false
variable {base : Nat}
/-! Compact. -/
noncomputable def lComp : {F : LF // lowerF Try.prog 34 = some F} := ⟨_, rfl⟩
def PLog.compact (L : PLog) (i : Int) (dz : Bool) (d : List Nat) : PLog := ⟨⟨i, (L.term i).1, (L.confAt i).1, (L.confAt i).2, none, dz, d, none⟩, L.E.drop (i - L.S.ix).toNat, L.z && (entP L.E).isEmpty, none⟩
theorem drop_take {l : List Ent} {k : Nat} : ((entP l).drop k).take ((entP l).length - k) = entP (l.drop k) := by rw [List.take_of_length_le (by simp), entP, entP, List.map_drop]
theorem Comp_no (L : PLog) (hL : L.ok) (i : Int) (hi : I64 i) (dz : Bool) (d : List Nat) (dc : Option Nat) (hno : i ≤ L.S.ix ∨ L.last < i) : CallS Try.prog base 34 [.c (.ptr 0 0), .c (.p (.int .i64 i)), .c (.p (.tz dz 1 (byP d) dc))] L.h (.c (.p (.bs false))) L.h := by
  refine CallS.of noNG lComp.2 rfl (M.start (M.go rfl ?_))
  refine M.dec rfl (fun h2 => ?_) (fun h2 => ?_)
  · refine M.go rfl ?_
    exact M.ret (M.go rfl (M.done (finQ.ret [(0, 0)] rfl rfl rfl (by first | exact Wk.rfl | exact Wk.uncap | exact Wk.nil | exact Wk.b1 rfl | exact Wk.t2 Wk.rfl (Wk.b1 rfl)) (by repeat' (first | exact True.intro | refine ⟨⟨_, _, _, rfl, rfl, rfl, WkO.rfl⟩, ?_⟩ | refine HeapOK.acc rfl rfl ?_ | refine HeapOK.es rfl rfl ?_)))))
  · refine M.go rfl ?_
    refine M.use (by first | exact True.intro | exact rfl) (Last_spec L hL) [(0, 0)] rfl rfl rfl (by repeat' (first | exact True.intro | refine ⟨⟨_, _, _, rfl, rfl, rfl, WkO.rfl⟩, ?_⟩ | refine HeapOK.acc rfl rfl ?_ | refine HeapOK.es rfl rfl ?_)) rfl rfl ?_
    refine M.go rfl ?_
    refine M.cond rfl (fun h3 => ?_) (fun h3 => ?_)
    · refine M.go rfl ?_
      exact M.ret (M.go rfl (M.done (finQ.ret [(0, 0)] rfl rfl rfl (by first | exact Wk.rfl | exact Wk.uncap | exact Wk.nil | exact Wk.b1 rfl | exact Wk.t2 Wk.rfl (Wk.b1 rfl)) (by repeat' (first | exact True.intro | refine ⟨⟨_, _, _, rfl, rfl, rfl, WkO.rfl⟩, ?_⟩ | refine HeapOK.acc rfl rfl ?_ | refine HeapOK.es rfl rfl ?_)))))
    · omega
theorem Comp_yes (L : PLog) (hL : L.ok) (i : Int) (hi : I64 i) (dz : Bool) (d : List Nat) (dc : Option Nat) (hd : okB d) (h1 : L.S.ix < i) (h3 : i ≤ L.last) : CallS Try.prog base 34 [.c (.ptr 0 0), .c (.p (.int .i64 i)), .c (.p (.tz dz 1 (byP d) dc))] L.h (.c (.p (.bs true))) (L.compact i dz d).h := by
  refine CallS.of noNG lComp.2 rfl (M.start (M.go rfl ?_))
  refine M.dec rfl (fun h2 => ?_) (fun h2 => ?_)
  · omega
  · refine M.go rfl ?_
    refine M.use (by first | exact True.intro | exact rfl) (Last_spec L hL) [(0, 0)] rfl rfl rfl (by repeat' (first | exact True.intro | refine ⟨⟨_, _, _, rfl, rfl, rfl, WkO.rfl⟩, ?_⟩ | refine HeapOK.acc rfl rfl ?_ | refine HeapOK.es rfl rfl ?_)) rfl rfl ?_
    refine M.go rfl ?_
    refine M.cond rfl (fun h3 => ?_) (fun _ => ?_)
    · omega
    · refine M.go rfl ?_
      refine M.use (by first | exact True.intro | exact rfl) (Term_spec L hL i hi) [(0, 0)] rfl rfl rfl (by repeat' (first | exact True.intro | refine ⟨⟨_, _, _, rfl, rfl, rfl, WkO.rfl⟩, ?_⟩ | refine HeapOK.acc rfl rfl ?_ | refine HeapOK.es rfl rfl ?_)) rfl rfl ?_
      refine M.go rfl ?_
      refine M.use (by first | exact True.intro | exact rfl) (ConfAt_spec L hL i hi) [(0, 0)] rfl rfl rfl (by repeat' (first | exact True.intro | refine ⟨⟨_, _, _, rfl, rfl, rfl, WkO.rfl⟩, ?_⟩ | refine HeapOK.acc rfl rfl ?_ | refine HeapOK.es rfl rfl ?_)) rfl rfl ?_
      refine M.go rfl ?_
      refine M.use0 trivial (Bcl_spec dz (byP d) dc (by have := hd.1; rw [byP_len]; omega)) rfl rfl rfl ?_
      refine M.go rfl ?_
      refine M.regD (MD.go rfl ?_)
      have hw : IntKind.i64.wrap (i - L.S.ix) = i - L.S.ix := wr64 (by omega) (by have := hL.ix; have := hi.2; omega)
      rw [hw]
      have hle : (i - L.S.ix).toNat ≤ (entP L.E).length := by rw [entP_len]; unfold PLog.last at h3; omega
      refine MD.op trivial (SOp.sl rfl ⟨_, _, rfl, by omega, rfl⟩ rfl hle (Nat.le_refl _)) (MD.go rfl ?_)
      rw [drop_take]
      refine MD.use0 trivial (Ecl_spec _ (entP (L.E.drop (i - L.S.ix).toNat)) _ (by rw [entP_len]; have := hL.len; simp; omega)) rfl rfl rfl (MD.go rfl (MD.nil mixed (Fnl.nodup rfl) (M.go rfl ?_)))
      exact M.ret (M.go rfl (M.done (finQ.ret [(0, 0)] rfl rfl rfl (by first | exact Wk.rfl | exact Wk.uncap | exact Wk.nil | exact Wk.b1 rfl | exact Wk.t2 Wk.rfl (Wk.b1 rfl)) (by repeat' (first | exact True.intro | refine ⟨⟨_, _, _, rfl, rfl, rfl, WkO.rfl⟩, ?_⟩ | refine HeapOK.acc rfl rfl ?_ | refine HeapOK.es rfl rfl ?_)))))
/-! Reset. -/
noncomputable def lReset : {F : LF // lowerF Try.prog 56 = some F} := ⟨_, rfl⟩
def PLog.keeps (L : PLog) (s : Snp) : Bool := (L.term s.ix).2 && (decide (L.S.ix < s.ix) && decide ((L.term s.ix).1 = s.tm))
def PLog.reset (L : PLog) (s : Snp) : PLog := if L.keeps s = true then ⟨s.own, L.E.drop (s.ix - L.S.ix).toNat, L.z && (entP L.E).isEmpty, none⟩ else ⟨s.own, [], L.z && (entP L.E).isEmpty, none⟩
theorem PLog.term_true {L : PLog} {i : Int} (h : (L.term i).2 = true) (h1 : L.S.ix < i) : i ≤ L.last := by
  unfold PLog.term at h
  rw [if_neg (by omega)] at h
  split at h
  · cases h
  · omega
theorem Reset_spec (L : PLog) (hL : L.ok) (s : Snp) (hs : s.ok) : CallS Try.prog base 56 [.c (.ptr 0 0), s.v] L.h (.tup []) (L.reset s).h := by
  refine CallS.of noNG lReset.2 rfl (M.start (M.go rfl ?_))
  refine M.op trivial (SOp.slM (l := 0) (r := 0) (m := 0) rfl rfl ⟨_, _, rfl, by omega, rfl⟩ ⟨_, _, rfl, by omega, rfl⟩ (by omega) (by omega) (by omega)) ?_
  refine M.go rfl ?_
  refine M.use (by first | exact True.intro | exact rfl) (Term_spec L hL s.ix hs.ix) [(0, 0)] rfl rfl rfl (by repeat' (first | exact True.intro | refine ⟨⟨_, _, _, rfl, rfl, rfl, WkO.rfl⟩, ?_⟩ | refine HeapOK.acc rfl rfl ?_ | refine HeapOK.es rfl rfl ?_)) rfl rfl ?_
  refine M.go rfl ?_
  have hz : ((entP L.E).drop 0).take (0 - 0) = entP [] := by simp [entP]
  rw [hz]
  refine M.decC (s := 6) rfl (fun h1 => ?_) (fun h1 => ?_)
  · have k1 : L.keeps s = (decide (L.S.ix < s.ix) && decide ((L.term s.ix).1 = s.tm)) := by rw [PLog.keeps, h1, Bool.true_and]
    by_cases h2 : L.S.ix < s.ix
    · have k2 : L.keeps s = decide ((L.term s.ix).1 = s.tm) := by rw [k1, decide_eq_true h2, Bool.true_and]
      have h3 := PLog.term_true h1 h2
      refine M.regD (MD.goN 9 rfl (MD.op rfl (SOp.binT rfl rfl rfl (decide_eq_true h2)) (MD.go rfl (MD.nil mixed (Fnl.nodup rfl) (M.go rfl ?_)))))
      refine M.cond rfl (fun h4 => ?_) (fun h4 => ?_)
      · refine M.go rfl ?_
        refine M.regD (MD.go rfl ?_)
        have hw : IntKind.i64.wrap (s.ix - L.S.ix) = s.ix - L.S.ix := wr64 (by omega) (by have := hL.ix; have := hs.ix.2; omega)
        rw [hw]
        have hle : (s.ix - L.S.ix).toNat ≤ (entP L.E).length := by rw [entP_len]; unfold PLog.last at h3; omega
        refine MD.op trivial (SOp.sl rfl ⟨_, _, rfl, by omega, rfl⟩ rfl hle (Nat.le_refl _)) (MD.go rfl ?_)
        rw [drop_take]
        refine MD.use0 trivial (Ecl_spec _ (entP (L.E.drop (s.ix - L.S.ix).toNat)) _ (by rw [entP_len]; have := hL.len; simp; omega)) rfl rfl rfl (MD.go rfl (MD.nil mixed (Fnl.nodup rfl) (M.go rfl ?_)))
        refine M.use0 trivial (ownS_spec s hs) rfl rfl rfl ?_
        refine M.go rfl ?_
        rw [show L.reset s = ⟨s.own, L.E.drop (s.ix - L.S.ix).toNat, L.z && (entP L.E).isEmpty, none⟩ from if_pos (by rw [k2]; exact decide_eq_true h4)]
        exact M.done (finQ.normal [(0, 0)] rfl rfl rfl Wk.rfl (by repeat' (first | exact True.intro | refine ⟨⟨_, _, _, rfl, rfl, rfl, WkO.rfl⟩, ?_⟩ | refine HeapOK.acc rfl rfl ?_ | refine HeapOK.es rfl rfl ?_)))
      · refine M.go rfl ?_
        refine M.use0 trivial (ownS_spec s hs) rfl rfl rfl ?_
        refine M.go rfl ?_
        rw [show L.reset s = ⟨s.own, [], L.z && (entP L.E).isEmpty, none⟩ from if_neg (by rw [k2]; simpa using h4)]
        exact M.done (finQ.normal [(0, 0)] rfl rfl rfl Wk.rfl ⟨⟨_, _, _, rfl, rfl, rfl, WkO.row ⟨Wk.rfl, Wk.rfl, Wk.rfl, Wk.rfl, Wk.uncap, trivial⟩⟩, trivial⟩)
    · refine M.regD (MD.goN 9 rfl (MD.op rfl (SOp.binF rfl rfl rfl (decide_eq_false h2)) (MD.go rfl (MD.nil mixed (Fnl.nodup rfl) (M.go rfl ?_)))))
      refine M.use0 trivial (ownS_spec s hs) rfl rfl rfl ?_
      refine M.go rfl ?_
      rw [show L.reset s = ⟨s.own, [], L.z && (entP L.E).isEmpty, none⟩ from if_neg (by rw [k1, decide_eq_false h2]; simp)]
      exact M.done (finQ.normal [(0, 0)] rfl rfl rfl Wk.rfl ⟨⟨_, _, _, rfl, rfl, rfl, WkO.row ⟨Wk.rfl, Wk.rfl, Wk.rfl, Wk.rfl, Wk.uncap, trivial⟩⟩, trivial⟩)
  · refine M.regD (MD.go rfl (MD.nil mixed (Fnl.nodup rfl) (M.go rfl ?_)))
    refine M.use0 trivial (ownS_spec s hs) rfl rfl rfl ?_
    refine M.go rfl ?_
    rw [show L.reset s = ⟨s.own, [], L.z && (entP L.E).isEmpty, none⟩ from if_neg (by rw [PLog.keeps, h1]; simp)]
    exact M.done (finQ.normal [(0, 0)] rfl rfl rfl Wk.rfl ⟨⟨_, _, _, rfl, rfl, rfl, WkO.row ⟨Wk.rfl, Wk.rfl, Wk.rfl, Wk.rfl, Wk.uncap, trivial⟩⟩, trivial⟩)
end Go.Proofs.Yteegdhfekemhmaa

namespace Go.Proofs.Yteegdhfekemhmaa
open Go.RowKit Sim Go Sym
set_option maxRecDepth 100000
set_option linter.unusedVariables false
set_option linter.unusedSimpArgs false
variable {base : Nat}
/-! New. -/
noncomputable def lNew : {F : LF // lowerF Try.prog 31 = some F} := ⟨_, rfl⟩
def nrow (s : Snp) (x : XC) : List XC := [.p (.int .i64 s.ix), .p (.int .i64 s.tm), .p (.tz s.cz 1 (inP s.cf) s.cc), .p (.tz s.dz 1 (byP s.d) s.dc), x]
theorem new_loop (s : Snp) (z : Bool) (c : Option Nat) (l : List Ent) (hl : l.length ≤ 10000000000) (hok : ∀ e ∈ l, e.ok) (Q : QX) (hq : Q (.exit 0) [(5, .c (.ptr 0 0))] ⟨[(1, accO 4 (entP (l.map Ent.own))), (0, some (.row (nrow s (.acc 1 4 (entP (l.map Ent.own)))) true))], 2⟩) :
    ∀ (rest pre : List Ent), l = pre ++ rest → XH Try.prog base lNew.1.n 0 (lNew.1.c.lp 0) [(29, .c (.p (.tz z 4 (entP l) c))), (30, .c (.p (.int .i64 (entP l).length))), (31, .c (.p (.int .i64 pre.length))), (5, .c (.ptr 0 0))] ⟨[(1, accO 4 (entP (pre.map Ent.own))), (0, some (.row (nrow s (.acc 1 4 (entP (pre.map Ent.own)))) true))], 2⟩ Q := by
  intro rest
  induction rest with
  | nil =>
    intro pre hp
    refine M.round (M.go rfl ?_)
    simp at hp
    subst hp
    refine M.cond rfl (fun hc => ?_) (fun hc => ?_)
    · simp [entP] at hc
    · cases l with
      | nil =>
        refine M.ren [(0, 0), (1, 1)] ?_ trivial rfl (by repeat' (first | exact True.intro | refine ⟨⟨_, _, rfl, rfl, Wk.rfl⟩, ?_⟩ | refine ⟨⟨_, _, accV_ren rfl, rfl, Wk.rfl⟩, ?_⟩ | refine ⟨⟨_, _, accV_ren rfl, rfl, Wk.acc0⟩, ?_⟩ | refine ⟨⟨_, _, rfl, rfl, Wk.uncap⟩, ?_⟩ | refine ⟨⟨_, _, rfl, rfl, Wk.nil⟩, ?_⟩)) (by repeat' (first | exact True.intro | refine ⟨⟨_, _, _, rfl, rfl, rfl, WkO.rfl⟩, ?_⟩ | refine HeapOK.acc rfl rfl ?_ | refine HeapOK.es rfl rfl ?_)) (e' := [(5, .c (.ptr 0 0))]) (h' := ⟨[(1, accO 4 (entP (([] : List Ent).map Ent.own))), (0, some (.row (nrow s (.acc 1 4 (entP (([] : List Ent).map Ent.own)))) true))], 2⟩)
        exact M.exit (M.go rfl (M.done hq))
      | cons e0 l =>
        refine M.ren [(0, 0), (1, 1)] ?_ trivial rfl (by repeat' (first | exact True.intro | refine ⟨⟨_, _, rfl, rfl, Wk.rfl⟩, ?_⟩ | refine ⟨⟨_, _, accV_ren rfl, rfl, Wk.rfl⟩, ?_⟩ | refine ⟨⟨_, _, accV_ren rfl, rfl, Wk.acc0⟩, ?_⟩ | refine ⟨⟨_, _, rfl, rfl, Wk.uncap⟩, ?_⟩ | refine ⟨⟨_, _, rfl, rfl, Wk.nil⟩, ?_⟩)) (by repeat' (first | exact True.intro | refine ⟨⟨_, _, _, rfl, rfl, rfl, WkO.rfl⟩, ?_⟩ | refine HeapOK.acc rfl rfl ?_ | refine HeapOK.es rfl rfl ?_)) (e' := [(5, .c (.ptr 0 0))]) (h' := ⟨[(1, accO 4 (entP ((e0 :: l).map Ent.own))), (0, some (.row (nrow s (.acc 1 4 (entP ((e0 :: l).map Ent.own)))) true))], 2⟩)
        exact M.exit (M.go rfl (M.done hq))
  | cons e rest ih =>
    intro pre hp
    have he : e.ok := hok e (by rw [hp]; simp)
    have hlen : (entP l).length = pre.length + (rest.length + 1) := by rw [hp]; simp [entP]
    have hll : pre.length + rest.length < 10000000000 := by rw [hp] at hl; simp at hl; omega
    have hla : (entP (pre.map Ent.own)).length = pre.length := by simp [entP]
    have hw2 : IntKind.i64.wrap ((pre.length : Int) + 1) = ((pre ++ [e]).length : Int) := by rw [wr64 (by omega) (by omega)]; simp
    have ih' := ih (pre ++ [e]) (by rw [hp]; simp)
    rw [show entP ((pre ++ [e]).map Ent.own) = entP (pre.map Ent.own) ++ [e.own.pc] by simp [entP]] at ih'
    refine M.round (M.go rfl ?_)
    refine M.cond rfl (fun hc => ?_) (fun hc => ?_)
    · refine M.go rfl ?_
      have hu : (entP l)[((pre.length : Int)).toNat]? = some e.pc := by rw [hp]; exact at_app _ _ _ _
      refine M.op trivial (SOp.ia rfl rfl (by omega) hu) ?_
      refine M.op trivial (SOp.ldne rfl hu rfl rfl rfl) ?_
      refine M.go rfl ?_
      cases pre with
      | nil =>
        refine M.regF (MF.go rfl ?_)
        refine MF.use0 trivial (own_spec e he.d) rfl rfl rfl (MF.go rfl ?_)
        refine MF.op trivial (SOp.appA0 rfl rfl (.own rfl rfl) (by simp) (by simp)) (MF.go rfl (MF.nil mixed (Fnl.nodup rfl) rfl ⟨⟨stepX_ok rfl, stepX_ok rfl, trivial⟩, trivial⟩ (M.go rfl ?_)))
        rw [hw2]
        exact M.again (XH.ren [(0, 0), (1, 4)] ih' rfl (by repeat' (first | exact True.intro | refine ⟨⟨_, _, rfl, rfl, Wk.rfl⟩, ?_⟩ | refine ⟨⟨_, _, accV_ren rfl, rfl, Wk.rfl⟩, ?_⟩ | refine ⟨⟨_, _, accV_ren rfl, rfl, Wk.acc0⟩, ?_⟩ | refine ⟨⟨_, _, rfl, rfl, Wk.uncap⟩, ?_⟩ | refine ⟨⟨_, _, rfl, rfl, Wk.nil⟩, ?_⟩)) (by repeat' (first | exact True.intro | refine ⟨⟨_, _, _, rfl, rfl, rfl, WkO.rfl⟩, ?_⟩ | refine HeapOK.acc rfl rfl ?_ | refine HeapOK.es rfl rfl ?_)))
      | cons e0 pre =>
        refine M.regF (MF.go rfl ?_)
        refine MF.use0 trivial (own_spec e he.d) rfl rfl rfl (MF.go rfl ?_)
        refine MF.op trivial (SOp.appA rfl rfl rfl (.own rfl rfl) (by simp) (by simp [entP]; simp at hll; omega)) (MF.go rfl (MF.nil mixed (Fnl.nodup rfl) rfl ⟨⟨stepX_ok rfl, stepX_ok rfl, trivial⟩, trivial⟩ (M.go rfl ?_)))
        rw [hw2]
        exact M.again (XH.ren [(0, 0), (1, 4)] ih' rfl (by repeat' (first | exact True.intro | refine ⟨⟨_, _, rfl, rfl, Wk.rfl⟩, ?_⟩ | refine ⟨⟨_, _, accV_ren rfl, rfl, Wk.rfl⟩, ?_⟩ | refine ⟨⟨_, _, accV_ren rfl, rfl, Wk.acc0⟩, ?_⟩ | refine ⟨⟨_, _, rfl, rfl, Wk.uncap⟩, ?_⟩ | refine ⟨⟨_, _, rfl, rfl, Wk.nil⟩, ?_⟩)) (by repeat' (first | exact True.intro | refine ⟨⟨_, _, _, rfl, rfl, rfl, WkO.rfl⟩, ?_⟩ | refine HeapOK.acc rfl rfl ?_ | refine HeapOK.es rfl rfl ?_)))
    · rw [hlen] at hc; omega
def newOk (s : Snp) (l : List Ent) : Bool := !(decide (s.ix < 0) || (decide (s.tm < 0) || !mayF s.ix s.tm l))
theorem New_no (s : Snp) (hs : s.ok) (z : Bool) (c : Option Nat) (l : List Ent) (hl : l.length ≤ 10000000000) (hok : ∀ e ∈ l, e.ok) (hno : newOk s l = false) : CallS Try.prog base 31 [s.v, .c (.p (.tz z 4 (entP l) c))] ⟨[], 0⟩ (.c (.p .nilp)) ⟨[], 0⟩ := by
  refine CallS.of noNG lNew.2 rfl (M.start (M.go rfl ?_))
  refine M.dec rfl (fun h1 => ?_) (fun h1 => ?_)
  · refine M.go rfl ?_
    exact M.ret (M.go rfl (M.done (finQ.ret [] rfl rfl rfl (by first | exact Wk.rfl | exact Wk.uncap | exact Wk.nil | exact Wk.b1 rfl | exact Wk.t2 Wk.rfl (Wk.b1 rfl)) (by repeat' (first | exact True.intro | refine ⟨⟨_, _, _, rfl, rfl, rfl, WkO.rfl⟩, ?_⟩ | refine HeapOK.acc rfl rfl ?_ | refine HeapOK.es rfl rfl ?_)))))
  · refine M.go rfl ?_
    refine M.dec rfl (fun h2 => ?_) (fun h2 => ?_)
    · refine M.go rfl ?_
      exact M.ret (M.go rfl (M.done (finQ.ret [] rfl rfl rfl (by first | exact Wk.rfl | exact Wk.uncap | exact Wk.nil | exact Wk.b1 rfl | exact Wk.t2 Wk.rfl (Wk.b1 rfl)) (by repeat' (first | exact True.intro | refine ⟨⟨_, _, _, rfl, rfl, rfl, WkO.rfl⟩, ?_⟩ | refine HeapOK.acc rfl rfl ?_ | refine HeapOK.es rfl rfl ?_)))))
    · refine M.go rfl ?_
      refine M.use0 rfl (may_spec z c l s.ix s.tm (by omega) hok hs.ix) rfl rfl rfl ?_
      refine M.go rfl ?_
      have hm : mayF s.ix s.tm l = false := by simpa [newOk, h1, h2] using hno
      refine M.condB rfl (fun h3 => ?_) (fun h3 => ?_)
      · refine M.go rfl ?_
        exact M.ret (M.go rfl (M.done (finQ.ret [] rfl rfl rfl (by first | exact Wk.rfl | exact Wk.uncap | exact Wk.nil | exact Wk.b1 rfl | exact Wk.t2 Wk.rfl (Wk.b1 rfl)) (by repeat' (first | exact True.intro | refine ⟨⟨_, _, _, rfl, rfl, rfl, WkO.rfl⟩, ?_⟩ | refine HeapOK.acc rfl rfl ?_ | refine HeapOK.es rfl rfl ?_)))))
      · rw [hm] at h3; simp at h3
theorem New_yes (s : Snp) (hs : s.ok) (z : Bool) (c : Option Nat) (l : List Ent) (hl : l.length ≤ 10000000000) (hok : ∀ e ∈ l, e.ok) (hno : newOk s l = true) : CallS Try.prog base 31 [s.v, .c (.p (.tz z 4 (entP l) c))] ⟨[], 0⟩ (.c (.ptr 0 0)) (PLog.h ⟨s.own, l.map Ent.own, true, none⟩) := by
  refine CallS.of noNG lNew.2 rfl (M.start (M.go rfl ?_))
  have h1 : ¬ s.ix < 0 := fun h => by simp [newOk, h] at hno
  have h2 : ¬ s.tm < 0 := fun h => by simp [newOk, h] at hno
  have hm : mayF s.ix s.tm l = true := by simpa [newOk, h1, h2] using hno
  refine M.dec rfl (fun h => absurd h h1) (fun _ => ?_)
  · refine M.go rfl ?_
    refine M.dec rfl (fun h => absurd h h2) (fun _ => ?_)
    · refine M.go rfl ?_
      refine M.use0 rfl (may_spec z c l s.ix s.tm (by omega) hok hs.ix) rfl rfl rfl ?_
      refine M.go rfl ?_
      refine M.condB rfl (fun h3 => ?_) (fun _ => ?_)
      · rw [hm] at h3; simp at h3
      · refine M.go rfl ?_
        refine M.use0 trivial (ownS_spec s hs) rfl rfl rfl ?_
        refine M.go rfl ?_
        refine M.wkH (b0 := 1) (o' := .row (nrow s.own (.acc 2 4 [])) true) rfl rfl (WkO.row ⟨Wk.rfl, Wk.rfl, Wk.rfl, Wk.rfl, Wk.of rfl, trivial⟩) ?_
        refine M.loop (XH.ren [(0, 1), (1, 2)] (new_loop s.own z c l hl hok _ ?_ l [] rfl) rfl (by repeat' (first | exact True.intro | refine ⟨⟨_, _, rfl, rfl, Wk.rfl⟩, ?_⟩ | refine ⟨⟨_, _, accV_ren rfl, rfl, Wk.rfl⟩, ?_⟩ | refine ⟨⟨_, _, accV_ren rfl, rfl, Wk.acc0⟩, ?_⟩ | refine ⟨⟨_, _, rfl, rfl, Wk.uncap⟩, ?_⟩ | refine ⟨⟨_, _, rfl, rfl, Wk.nil⟩, ?_⟩)) (by repeat' (first | exact True.intro | refine ⟨⟨_, _, _, rfl, rfl, rfl, WkO.rfl⟩, ?_⟩ | refine HeapOK.acc rfl rfl ?_ | refine HeapOK.es rfl rfl ?_)))
        refine M.q (M.goN 2 rfl ?_)
        refine M.accFR (b0 := 0) (o := 4) (b := 1) rfl rfl rfl rfl rfl ?_
        refine M.go rfl ?_
        exact M.ret (M.go rfl (M.done (finQ.ret [(0, 0)] rfl rfl rfl (by first | exact Wk.rfl | exact Wk.uncap | exact Wk.nil | exact Wk.b1 rfl | exact Wk.t2 Wk.rfl (Wk.b1 rfl)) (by repeat' (first | exact True.intro | refine ⟨⟨_, _, _, rfl, rfl, rfl, WkO.rfl⟩, ?_⟩ | refine HeapOK.acc rfl rfl ?_ | refine HeapOK.es rfl rfl ?_)))))
theorem appCA {P : Program} {n : Nat} {e : Env} {h : HS} {s bytes c : Nat} {x y : LX} {v : XC} {z : Bool} {ex el : List PC} {y0 : PC} {ey : List PC} (hx : xev e x = some (.c (.p (.tz z s ex (some c))))) (hy : xev e y = some (.c v)) (hel : ElsX h s v el) (h0 : el ≠ []) (hc : c < ex.length + el.length) (hb : (ex.length + el.length) * bytes ≤ 140737488355328) (he : ex ++ el = y0 :: ey) :
    SOp P n (.app s bytes x y) e h (.c (.acc h.next s (y0 :: ey))) (h.newO (.els s (y0 :: ey))) := by
  have := SOp.appC (P := P) (n := n) hx hy hel h0 hc hb
  rw [he, ← List.length_append, he] at this
  exact this.sv rfl
/-! Put. -/
noncomputable def lPut : {F : LF // lowerF Try.prog 38 = some F} := ⟨_, rfl⟩
theorem put_loop (s : Snp) (z : Bool) (c : Option Nat) (l : List Ent) (hl : l.length ≤ 10000000000) (hok : ∀ e ∈ l, e.ok) (Q : QX) :
    ∀ (rest pre : List Ent) (x0 : PC) (ex : List PC), l = pre ++ rest → ex.length + rest.length ≤ 100000000000 → (∀ y0 ey, y0 :: ey = x0 :: ex ++ entP (rest.map Ent.own) → Q (.exit 0) [(0, .c (.ptr 0 0))] ⟨[(1, some (.els 4 (y0 :: ey))), (0, some (.row (nrow s (.acc 1 4 (y0 :: ey))) true))], 2⟩) →
    XH Try.prog base lPut.1.n 1 (lPut.1.c.lp 0) [(65, .c (.p (.tz z 4 (entP l) c))), (66, .c (.p (.int .i64 (entP l).length))), (67, .c (.p (.int .i64 pre.length))), (0, .c (.ptr 0 0))] ⟨[(1, some (.els 4 (x0 :: ex))), (0, some (.row (nrow s (.acc 1 4 (x0 :: ex))) true))], 2⟩ Q := by
  intro rest
  induction rest with
  | nil =>
    intro pre x0 ex hp hx hq
    refine M.round (M.go rfl ?_)
    simp at hp
    subst hp
    refine M.cond rfl (fun hc => ?_) (fun hc => ?_)
    · simp [entP] at hc
    · refine M.ren [(0, 0), (1, 1)] ?_ trivial rfl (by repeat' (first | exact True.intro | refine ⟨⟨_, _, rfl, rfl, Wk.rfl⟩, ?_⟩ | refine ⟨⟨_, _, accV_ren rfl, rfl, Wk.rfl⟩, ?_⟩ | refine ⟨⟨_, _, accV_ren rfl, rfl, Wk.acc0⟩, ?_⟩ | refine ⟨⟨_, _, rfl, rfl, Wk.uncap⟩, ?_⟩ | refine ⟨⟨_, _, rfl, rfl, Wk.nil⟩, ?_⟩)) (by repeat' (first | exact True.intro | refine ⟨⟨_, _, _, rfl, rfl, rfl, WkO.rfl⟩, ?_⟩ | refine HeapOK.acc rfl rfl ?_ | refine HeapOK.es rfl rfl ?_)) (e' := [(0, .c (.ptr 0 0))]) (h' := ⟨[(1, some (.els 4 (x0 :: ex))), (0, some (.row (nrow s (.acc 1 4 (x0 :: ex))) true))], 2⟩)
      exact M.exit (M.go rfl (M.done (hq x0 ex (by simp [entP]))))
  | cons e rest ih =>
    intro pre x0 ex hp hx hq
    have he : e.ok := hok e (by rw [hp]; simp)
    have hlen : (entP l).length = pre.length + (rest.length + 1) := by rw [hp]; simp [entP]
    have hll : pre.length + rest.length < 10000000000 := by rw [hp] at hl; simp at hl; omega
    have hw2 : IntKind.i64.wrap ((pre.length : Int) + 1) = ((pre ++ [e]).length : Int) := by rw [wr64 (by omega) (by omega)]; simp
    simp only [List.length_cons] at hx
    have ih' := ih (pre ++ [e]) x0 (ex ++ [e.own.pc]) (by rw [hp]; simp) (by simp; omega) (fun y0 ey hy => hq y0 ey (by rw [hy]; simp [entP]))
    refine M.round (M.go rfl ?_)
    refine M.cond rfl (fun hc => ?_) (fun hc => ?_)
    · refine M.go rfl ?_
      have hu : (entP l)[((pre.length : Int)).toNat]? = some e.pc := by rw [hp]; exact at_app _ _ _ _
      refine M.op trivial (SOp.ia rfl rfl (by omega) hu) ?_
      refine M.op trivial (SOp.ldne rfl hu rfl rfl rfl) ?_
      refine M.go rfl ?_
      refine M.regF (MF.go rfl ?_)
      refine MF.use0 trivial (own_spec e he.d) rfl rfl rfl (MF.go rfl ?_)
      refine MF.op trivial (SOp.appA rfl rfl rfl (.own rfl rfl) (by simp) (by simp; omega)) (MF.go rfl (MF.nil mixed (Fnl.nodup rfl) rfl ⟨⟨stepX_ok rfl, stepX_ok rfl, trivial⟩, trivial⟩ (M.go rfl ?_)))
      rw [hw2]
      exact M.again (XH.ren [(0, 0), (1, 4)] ih' rfl (by repeat' (first | exact True.intro | refine ⟨⟨_, _, rfl, rfl, Wk.rfl⟩, ?_⟩ | refine ⟨⟨_, _, accV_ren rfl, rfl, Wk.rfl⟩, ?_⟩ | refine ⟨⟨_, _, accV_ren rfl, rfl, Wk.acc0⟩, ?_⟩ | refine ⟨⟨_, _, rfl, rfl, Wk.uncap⟩, ?_⟩ | refine ⟨⟨_, _, rfl, rfl, Wk.nil⟩, ?_⟩)) (by repeat' (first | exact True.intro | refine ⟨⟨_, _, _, rfl, rfl, rfl, WkO.rfl⟩, ?_⟩ | refine HeapOK.acc rfl rfl ?_ | refine HeapOK.es rfl rfl ?_)))
    · rw [hlen] at hc; omega
theorem put_first (s : Snp) (z : Bool) (c : Option Nat) (e : Ent) (l : List Ent) (hl : (e :: l).length ≤ 10000000000) (hok : ∀ e' ∈ e :: l, e'.ok) (z2 : Bool) (T : List PC) (hT : T.length ≤ 10000000000) (Q : QX) (hq : ∀ y0 ey, y0 :: ey = T ++ entP ((e :: l).map Ent.own) → Q (.exit 0) [(0, .c (.ptr 0 0))] ⟨[(1, some (.els 4 (y0 :: ey))), (0, some (.row (nrow s (.acc 1 4 (y0 :: ey))) true))], 2⟩) :
    XH Try.prog base lPut.1.n 1 (lPut.1.c.lp 0) [(65, .c (.p (.tz z 4 (entP (e :: l)) c))), (66, .c (.p (.int .i64 (entP (e :: l)).length))), (67, .c (.p (.int .i64 0))), (0, .c (.ptr 0 0))] ⟨[(0, some (.row (nrow s (.p (.tz z2 4 T (some T.length)))) true))], 1⟩ Q := by
  have he : e.ok := hok e (by simp)
  refine M.round (M.go rfl ?_)
  refine M.cond rfl (fun hc => ?_) (fun hc => ?_)
  · refine M.go rfl ?_
    have hu : (entP (e :: l))[((0 : Int)).toNat]? = some e.pc := rfl
    refine M.op trivial (SOp.ia rfl rfl (by omega) hu) ?_
    refine M.op trivial (SOp.ldne rfl hu rfl rfl rfl) ?_
    refine M.go rfl ?_
    refine M.regF (MF.go rfl ?_)
    refine MF.use0 trivial (own_spec e he.d) rfl rfl rfl (MF.go rfl ?_)
    obtain ⟨x0, ex, hx⟩ : ∃ x0 ex, T ++ [e.own.pc] = x0 :: ex := by cases T <;> simp
    refine MF.op trivial (appCA rfl rfl (.own rfl rfl) (by simp) (by simp) (by simp; omega) hx) (MF.go rfl (MF.nil mixed (Fnl.nodup rfl) rfl ⟨⟨stepX_ok rfl, stepX_ok rfl, trivial⟩, trivial⟩ (M.go rfl ?_)))
    have hxl : T.length + 1 = ex.length + 1 := by have := congrArg List.length hx; simpa using this
    have ih' := put_loop (base := base) s z c (e :: l) hl hok Q l [e] x0 ex rfl (by simp at hl; omega) (fun y0 ey hy => hq y0 ey (by rw [hy, ← hx]; simp [entP]))
    exact M.again (XH.ren [(0, 0), (1, 3)] ih' rfl (by repeat' (first | exact True.intro | refine ⟨⟨_, _, rfl, rfl, Wk.rfl⟩, ?_⟩ | refine ⟨⟨_, _, accV_ren rfl, rfl, Wk.rfl⟩, ?_⟩ | refine ⟨⟨_, _, accV_ren rfl, rfl, Wk.acc0⟩, ?_⟩ | refine ⟨⟨_, _, rfl, rfl, Wk.uncap⟩, ?_⟩ | refine ⟨⟨_, _, rfl, rfl, Wk.nil⟩, ?_⟩)) (by repeat' (first | exact True.intro | refine ⟨⟨_, _, _, rfl, rfl, rfl, WkO.rfl⟩, ?_⟩ | refine HeapOK.acc rfl rfl ?_ | refine HeapOK.es rfl rfl ?_)))
  · simp [entP] at hc
def PLog.frm (l : List Ent) : Int := (l.headD default).ix
def PLog.putOk (L : PLog) (l : List Ent) : Bool := match l with
  | [] => false
  | e :: _ => decide (L.S.ix < e.ix) && (decide (e.ix ≤ L.last + 1) && mayF (e.ix - 1) (L.term (e.ix - 1)).1 l)
def PLog.put (L : PLog) (l : List Ent) : PLog := ⟨L.S, L.E.take ((l.headD default).ix - L.S.ix - 1).toNat ++ l.map Ent.own, true, none⟩
theorem Put_nil (L : PLog) (z : Bool) (c : Option Nat) : CallS Try.prog base 38 [.c (.ptr 0 0), .c (.p (.tz z 4 [] c))] L.h (.c (.p (.bs false))) L.h := by
  refine CallS.of noNG lPut.2 rfl (M.start (M.go rfl ?_))
  refine M.condB rfl (fun h => ?_) (fun h => ?_)
  · refine M.go rfl ?_
    exact M.ret (M.go rfl (M.done (finQ.ret [(0, 0)] rfl rfl rfl (by first | exact Wk.rfl | exact Wk.uncap | exact Wk.nil | exact Wk.b1 rfl | exact Wk.t2 Wk.rfl (Wk.b1 rfl)) (by repeat' (first | exact True.intro | refine ⟨⟨_, _, _, rfl, rfl, rfl, WkO.rfl⟩, ?_⟩ | refine HeapOK.acc rfl rfl ?_ | refine HeapOK.es rfl rfl ?_)))))
  · exact absurd h (by decide)
theorem Put_no (L : PLog) (hL : L.ok) (hmax : L.last < 9223372036854775807) (z : Bool) (c : Option Nat) (e : Ent) (l : List Ent) (hl : (e :: l).length ≤ 10000000000) (hok : ∀ e' ∈ e :: l, e'.ok) (hno : L.putOk (e :: l) = false) : CallS Try.prog base 38 [.c (.ptr 0 0), .c (.p (.tz z 4 (entP (e :: l)) c))] L.h (.c (.p (.bs false))) L.h := by
  have he : e.ok := hok e (by simp)
  refine CallS.of noNG lPut.2 rfl (M.start (M.go rfl ?_))
  refine M.cond rfl (fun h => ?_) (fun h => ?_)
  · exfalso; simp [entP] at h; omega
  · refine M.go rfl ?_
    have hu : (entP (e :: l))[((0 : Int)).toNat]? = some e.pc := rfl
    refine M.op trivial (SOp.ia rfl rfl (by omega) hu) ?_
    refine M.go rfl ?_
    refine M.op trivial (SOp.ld1e rfl hu rfl rfl rfl) ?_
    refine M.go rfl ?_
    refine M.dec rfl (fun h1 => ?_) (fun h1 => ?_)
    · refine M.go rfl ?_
      exact M.ret (M.go rfl (M.done (finQ.ret [(0, 0)] rfl rfl rfl (by first | exact Wk.rfl | exact Wk.uncap | exact Wk.nil | exact Wk.b1 rfl | exact Wk.t2 Wk.rfl (Wk.b1 rfl)) (by repeat' (first | exact True.intro | refine ⟨⟨_, _, _, rfl, rfl, rfl, WkO.rfl⟩, ?_⟩ | refine HeapOK.acc rfl rfl ?_ | refine HeapOK.es rfl rfl ?_)))))
    · refine M.go rfl ?_
      refine M.use (by first | exact True.intro | exact rfl) (Last_spec L hL) [(0, 0)] rfl rfl rfl (by repeat' (first | exact True.intro | refine ⟨⟨_, _, _, rfl, rfl, rfl, WkO.rfl⟩, ?_⟩ | refine HeapOK.acc rfl rfl ?_ | refine HeapOK.es rfl rfl ?_)) rfl rfl ?_
      refine M.go rfl ?_
      have hw : IntKind.i64.wrap (L.last + 1) = L.last + 1 := wr64 (by unfold PLog.last; have := hL.ix; omega) (by omega)
      rw [hw]
      refine M.cond rfl (fun h2 => ?_) (fun h2 => ?_)
      · refine M.go rfl ?_
        exact M.ret (M.go rfl (M.done (finQ.ret [(0, 0)] rfl rfl rfl (by first | exact Wk.rfl | exact Wk.uncap | exact Wk.nil | exact Wk.b1 rfl | exact Wk.t2 Wk.rfl (Wk.b1 rfl)) (by repeat' (first | exact True.intro | refine ⟨⟨_, _, _, rfl, rfl, rfl, WkO.rfl⟩, ?_⟩ | refine HeapOK.acc rfl rfl ?_ | refine HeapOK.es rfl rfl ?_)))))
      · refine M.go rfl ?_
        have hw2 : IntKind.i64.wrap (e.ix - 1) = e.ix - 1 := wr64 (by have := hL.ix; omega) (by have := he.ix.2; omega)
        rw [hw2]
        have hi2 : I64 (e.ix - 1) := ⟨by have := hL.ix; omega, by have := he.ix.2; omega⟩
        refine M.use (by first | exact True.intro | exact rfl) (Term_spec L hL (e.ix - 1) hi2) [(0, 0)] rfl rfl rfl (by repeat' (first | exact True.intro | refine ⟨⟨_, _, _, rfl, rfl, rfl, WkO.rfl⟩, ?_⟩ | refine HeapOK.acc rfl rfl ?_ | refine HeapOK.es rfl rfl ?_)) rfl rfl ?_
        refine M.go rfl ?_
        rw [hw2]
        refine M.use0 trivial (may_spec z c (e :: l) (e.ix - 1) (L.term (e.ix - 1)).1 (by omega) hok hi2) rfl rfl rfl ?_
        refine M.go rfl ?_
        have hm : mayF (e.ix - 1) (L.term (e.ix - 1)).1 (e :: l) = false := by
          have h3 : L.S.ix < e.ix := by omega
          have h4 : e.ix ≤ L.last + 1 := by omega
          simpa [PLog.putOk, h3, h4] using hno
        refine M.condB rfl (fun h5 => ?_) (fun h5 => ?_)
        · refine M.go rfl ?_
          exact M.ret (M.go rfl (M.done (finQ.ret [(0, 0)] rfl rfl rfl (by first | exact Wk.rfl | exact Wk.uncap | exact Wk.nil | exact Wk.b1 rfl | exact Wk.t2 Wk.rfl (Wk.b1 rfl)) (by repeat' (first | exact True.intro | refine ⟨⟨_, _, _, rfl, rfl, rfl, WkO.rfl⟩, ?_⟩ | refine HeapOK.acc rfl rfl ?_ | refine HeapOK.es rfl rfl ?_)))))
        · rw [hm] at h5; simp at h5
theorem Put_yes (L : PLog) (hL : L.ok) (hmax : L.last < 9223372036854775807) (z : Bool) (c : Option Nat) (e : Ent) (l : List Ent) (hl : (e :: l).length ≤ 10000000000) (hok : ∀ e' ∈ e :: l, e'.ok) (hno : L.putOk (e :: l) = true) : CallS Try.prog base 38 [.c (.ptr 0 0), .c (.p (.tz z 4 (entP (e :: l)) c))] L.h (.c (.p (.bs true))) (L.put (e :: l)).h := by
  have he : e.ok := hok e (by simp)
  simp only [PLog.putOk, Bool.and_eq_true, decide_eq_true_eq] at hno
  obtain ⟨h3, h4, hm⟩ := hno
  refine CallS.of noNG lPut.2 rfl (M.start (M.go rfl ?_))
  refine M.cond rfl (fun h => ?_) (fun h => ?_)
  · exfalso; simp [entP] at h; omega
  · refine M.go rfl ?_
    have hu : (entP (e :: l))[((0 : Int)).toNat]? = some e.pc := rfl
    refine M.op trivial (SOp.ia rfl rfl (by omega) hu) ?_
    refine M.go rfl ?_
    refine M.op trivial (SOp.ld1e rfl hu rfl rfl rfl) ?_
    refine M.go rfl ?_
    refine M.dec rfl (fun h1 => absurd h1 (by omega)) (fun h1 => ?_)
    · refine M.go rfl ?_
      refine M.use (by first | exact True.intro | exact rfl) (Last_spec L hL) [(0, 0)] rfl rfl rfl (by repeat' (first | exact True.intro | refine ⟨⟨_, _, _, rfl, rfl, rfl, WkO.rfl⟩, ?_⟩ | refine HeapOK.acc rfl rfl ?_ | refine HeapOK.es rfl rfl ?_)) rfl rfl ?_
      refine M.go rfl ?_
      have hw : IntKind.i64.wrap (L.last + 1) = L.last + 1 := wr64 (by unfold PLog.last; have := hL.ix; omega) (by omega)
      rw [hw]
      refine M.cond rfl (fun h2 => absurd h2 (by omega)) (fun h2 => ?_)
      · refine M.go rfl ?_
        have hw2 : IntKind.i64.wrap (e.ix - 1) = e.ix - 1 := wr64 (by have := hL.ix; omega) (by have := he.ix.2; omega)
        rw [hw2]
        have hi2 : I64 (e.ix - 1) := ⟨by have := hL.ix; omega, by have := he.ix.2; omega⟩
        refine M.use (by first | exact True.intro | exact rfl) (Term_spec L hL (e.ix - 1) hi2) [(0, 0)] rfl rfl rfl (by repeat' (first | exact True.intro | refine ⟨⟨_, _, _, rfl, rfl, rfl, WkO.rfl⟩, ?_⟩ | refine HeapOK.acc rfl rfl ?_ | refine HeapOK.es rfl rfl ?_)) rfl rfl ?_
        refine M.go rfl ?_
        rw [hw2]
        refine M.use0 trivial (may_spec z c (e :: l) (e.ix - 1) (L.term (e.ix - 1)).1 (by omega) hok hi2) rfl rfl rfl ?_
        refine M.go rfl ?_
        refine M.condB rfl (fun h5 => ?_) (fun _ => ?_)
        · rw [hm] at h5; simp at h5
        · refine M.go rfl ?_
          refine M.regD (MD.go rfl ?_)
          have hw3 : IntKind.i64.wrap (IntKind.i64.wrap (e.ix - L.S.ix) - 1) = e.ix - L.S.ix - 1 := hL.wrap he.ix h3
          rw [hw3]
          have hle : (e.ix - L.S.ix - 1).toNat ≤ (entP L.E).length := by rw [entP_len]; unfold PLog.last at h4; omega
          refine MD.op trivial (SOp.sl rfl rfl ⟨_, _, rfl, by omega, rfl⟩ (Nat.zero_le _) hle) (MD.go rfl ?_)
          have hd : ((entP L.E).drop 0).take ((e.ix - L.S.ix - 1).toNat - 0) = entP (L.E.take (e.ix - L.S.ix - 1).toNat) := by simp [entP]
          rw [hd]
          refine MD.use0 trivial (Clip_spec _ (entP (L.E.take (e.ix - L.S.ix - 1).toNat)) _) rfl rfl rfl (MD.go rfl (MD.nil mixed (Fnl.nodup rfl) (M.go rfl ?_)))
          have hT : (entP (L.E.take (e.ix - L.S.ix - 1).toNat)).length ≤ 10000000000 := by rw [entP_len]; have := hL.len; simp; omega
          refine M.loop (XH.ren [(0, 0)] (put_first L.S z c e l hl hok _ (entP (L.E.take (e.ix - L.S.ix - 1).toNat)) hT _ (fun y0 ey hy => ?_)) rfl (by repeat' (first | exact True.intro | refine ⟨⟨_, _, rfl, rfl, Wk.rfl⟩, ?_⟩ | refine ⟨⟨_, _, accV_ren rfl, rfl, Wk.rfl⟩, ?_⟩ | refine ⟨⟨_, _, accV_ren rfl, rfl, Wk.acc0⟩, ?_⟩ | refine ⟨⟨_, _, rfl, rfl, Wk.uncap⟩, ?_⟩ | refine ⟨⟨_, _, rfl, rfl, Wk.nil⟩, ?_⟩)) (by repeat' (first | exact True.intro | refine ⟨⟨_, _, _, rfl, rfl, rfl, WkO.rfl⟩, ?_⟩ | refine HeapOK.acc rfl rfl ?_ | refine HeapOK.es rfl rfl ?_)))
          refine M.q (M.goN 2 rfl ?_)
          refine M.accFR (b0 := 0) (o := 4) (b := 1) rfl rfl rfl rfl rfl ?_
          refine M.go rfl ?_
          rw [show L.put (e :: l) = ⟨L.S, L.E.take (e.ix - L.S.ix - 1).toNat ++ (e :: l).map Ent.own, true, none⟩ from rfl]
          have hy2 : y0 :: ey = entP (L.E.take (e.ix - L.S.ix - 1).toNat ++ (e :: l).map Ent.own) := by rw [hy]; simp [entP]
          rw [hy2]
          exact M.ret (M.go rfl (M.done (finQ.ret [(0, 0)] rfl rfl rfl (by first | exact Wk.rfl | exact Wk.uncap | exact Wk.nil | exact Wk.b1 rfl | exact Wk.t2 Wk.rfl (Wk.b1 rfl)) (by repeat' (first | exact True.intro | refine ⟨⟨_, _, _, rfl, rfl, rfl, WkO.rfl⟩, ?_⟩ | refine HeapOK.acc rfl rfl ?_ | refine HeapOK.es rfl rfl ?_)))))
end Go.Proofs.Yteegdhfekemhmaa

namespace Go.Proofs.Yteegdhfekemhmaa
open Go.RowKit Sim Go Sym
set_option maxRecDepth 100000
set_option linter.unusedVariables false
set_option linter.unusedSimpArgs false
variable {base : Nat}
def entQ (b t : Int) : Ent := ⟨b, t, 2, true, [], none⟩
def seqE (b t : Int) (k : Nat) : List Ent := (List.range k).map fun (j : Nat) => entQ (b + ((j : Int) + 1)) t
theorem seqE_succ (b t : Int) (k : Nat) : seqE b t (k + 1) = seqE b t k ++ [entQ (b + (k + 1)) t] := by simp [seqE, List.range_succ]
theorem seqE_cons (b t : Int) (k : Nat) : seqE b t (k + 1) = entQ (b + 1) t :: seqE (b + 1) t k := by
  simp only [seqE, List.range_succ_eq_map, List.map_cons, List.map_map]
  refine List.cons_eq_cons.2 ⟨by simp, List.map_congr_left fun j _ => ?_⟩
  simp only [Function.comp, Nat.succ_eq_add_one]
  rw [show b + (((j + 1 : Nat) : Int) + 1) = b + 1 + ((j : Int) + 1) by omega]
theorem seqE_len (b t : Int) (k : Nat) : (seqE b t k).length = k := by simp [seqE]
theorem seqE_may (t : Int) (ht : 1 ≤ t) : ∀ (k : Nat) (b s : Int), s ≤ t → b + k ≤ 9223372036854775806 → mayF b s (seqE b t k) = true
  | 0, _, _, _, _ => rfl
  | k + 1, b, s, hs, hb => by
    have h0 := seqE_may t ht k (b + 1) t (Int.le_refl _) (by omega)
    rw [seqE_cons, mayF]
    have h1 : ¬ b = 9223372036854775807 := by omega
    have h2 : ¬ t < 1 := by omega
    have h3 : ¬ t < s := by omega
    simp [entB, entQ, h1, h2, h3, h0]
theorem seqE_ok (b t : Int) (k : Nat) (hb : 0 ≤ b) (hb2 : b + k ≤ 9000000000000000000) (ht : I64 t) : ∀ e ∈ seqE b t k, e.ok := by
  intro e he
  simp only [seqE, List.mem_map, List.mem_range] at he
  obtain ⟨j, hj, rfl⟩ := he
  exact ⟨⟨by simp [entQ]; omega, by simp [entQ]; omega⟩, ht, ⟨by simp [entQ], by simp [entQ]⟩, ⟨by simp [entQ], by simp [entQ]⟩⟩
theorem seqE_own (b t : Int) (k : Nat) : (seqE b t k).map Ent.own = seqE b t k := by simp [seqE, Function.comp_def, entQ, Ent.own]
noncomputable def lCut : {F : LF // lowerF Try.prog 6 = some F} := ⟨_, rfl⟩
theorem cutA (b n f m : Int) (N : Nat) (hN : n = N) (hn : N ≤ 30) (hb : 0 ≤ b) (hb2 : b ≤ 1099511627776) (Q : QX) (hq : Q (.exit 0) [(10, accV 0 4 (entP (seqE b 2 N))), (0, .c (.p (.int .i64 b))), (1, .c (.p (.int .i64 n))), (2, .c (.p (.int .i64 f))), (3, .c (.p (.int .i64 m))), (11, .c (.p (.tz true 0 [] none)))] ⟨[(0, accO 4 (entP (seqE b 2 N)))], 1⟩) :
    ∀ (rem k : Nat), k + rem = N → XH Try.prog base lCut.1.n 0 (lCut.1.c.lp 0) [(10, accV 0 4 (entP (seqE b 2 k))), (12, .c (.p (.int .i64 (k + 1)))), (0, .c (.p (.int .i64 b))), (1, .c (.p (.int .i64 n))), (2, .c (.p (.int .i64 f))), (3, .c (.p (.int .i64 m))), (11, .c (.p (.tz true 0 [] none)))] ⟨[(0, accO 4 (entP (seqE b 2 k)))], 1⟩ Q := by
  intro rem
  induction rem with
  | zero =>
    intro k hk
    obtain rfl : k = N := by omega
    refine M.round (M.go rfl ?_)
    refine M.cond rfl (fun hc => ?_) (fun hc => ?_)
    · omega
    · refine M.ren [(0, 0)] ?_ trivial rfl (by repeat' (first | exact True.intro | refine ⟨⟨_, _, rfl, rfl, Wk.rfl⟩, ?_⟩ | refine ⟨⟨_, _, accV_ren rfl, rfl, Wk.rfl⟩, ?_⟩ | refine ⟨⟨_, _, accV_ren rfl, rfl, Wk.acc0⟩, ?_⟩ | refine ⟨⟨_, _, rfl, rfl, Wk.uncap⟩, ?_⟩ | refine ⟨⟨_, _, rfl, rfl, Wk.nil⟩, ?_⟩)) (by repeat' (first | exact True.intro | refine ⟨⟨_, _, _, rfl, rfl, rfl, WkO.rfl⟩, ?_⟩ | refine HeapOK.acc rfl rfl ?_ | refine HeapOK.es rfl rfl ?_)) (e' := [(10, accV 0 4 (entP (seqE b 2 k))), (0, .c (.p (.int .i64 b))), (1, .c (.p (.int .i64 n))), (2, .c (.p (.int .i64 f))), (3, .c (.p (.int .i64 m))), (11, .c (.p (.tz true 0 [] none)))]) (h' := ⟨[(0, accO 4 (entP (seqE b 2 k)))], 1⟩)
      exact M.exit (M.go rfl (M.done hq))
  | succ rem ih =>
    intro k hk
    have ih' := ih (k + 1) (by omega)
    rw [seqE_succ, show entP (seqE b 2 k ++ [entQ (b + (k + 1)) 2]) = entP (seqE b 2 k) ++ [(entQ (b + (k + 1)) 2).pc] by simp [entP]] at ih'
    refine M.round (M.go rfl ?_)
    refine M.cond rfl (fun hc => ?_) (fun hc => ?_)
    · refine M.goN 10 rfl ?_
      have hw : IntKind.i64.wrap (b + ((k : Int) + 1)) = b + ((k : Int) + 1) := wr64 (by omega) (by omega)
      have hw2 : IntKind.i64.wrap ((k : Int) + 1 + 1) = ((k + 1 : Nat) : Int) + 1 := by rw [wr64 (by omega) (by omega)]; omega
      rw [hw]
      refine M.wkO (i := 62) (v' := (entQ (b + ((k : Int) + 1)) 2).v) rfl Wk.rfl ?_
      refine M.go rfl ?_
      refine M.acc trivial rfl rfl rfl (.own rfl rfl) (by simp) (by rw [entP_len, seqE_len]; simp; omega) ?_
      refine M.go rfl ?_
      rw [hw2]
      exact M.again (XH.ren [(0, 2)] ih' rfl (by repeat' (first | exact True.intro | refine ⟨⟨_, _, rfl, rfl, Wk.rfl⟩, ?_⟩ | refine ⟨⟨_, _, accV_ren rfl, rfl, Wk.rfl⟩, ?_⟩ | refine ⟨⟨_, _, accV_ren rfl, rfl, Wk.acc0⟩, ?_⟩ | refine ⟨⟨_, _, rfl, rfl, Wk.uncap⟩, ?_⟩ | refine ⟨⟨_, _, rfl, rfl, Wk.nil⟩, ?_⟩)) (by repeat' (first | exact True.intro | refine ⟨⟨_, _, _, rfl, rfl, rfl, WkO.rfl⟩, ?_⟩ | refine HeapOK.acc rfl rfl ?_ | refine HeapOK.es rfl rfl ?_)))
    · omega
theorem cutB (b n f m : Int) (Ea : List PC) (N : Nat) (hN : m = N) (hn : N ≤ 20) (hb : 0 ≤ b) (hb2 : b ≤ 1099511627776) (hf : 0 ≤ f) (hf2 : f ≤ 30) (Q : QX) (hq : Q (.exit 2) [(11, accV 0 4 (entP (seqE (b + f) 3 N))), (0, .c (.p (.int .i64 b))), (1, .c (.p (.int .i64 n))), (2, .c (.p (.int .i64 f))), (3, .c (.p (.int .i64 m))), (10, .c (.p (.tz true 4 Ea none)))] ⟨[(0, accO 4 (entP (seqE (b + f) 3 N)))], 1⟩) :
    ∀ (rem k : Nat), k + rem = N → XH Try.prog base lCut.1.n 0 (lCut.1.c.lp 1) [(11, accV 0 4 (entP (seqE (b + f) 3 k))), (13, .c (.p (.int .i64 (k + 1)))), (0, .c (.p (.int .i64 b))), (1, .c (.p (.int .i64 n))), (2, .c (.p (.int .i64 f))), (3, .c (.p (.int .i64 m))), (10, .c (.p (.tz true 4 Ea none)))] ⟨[(0, accO 4 (entP (seqE (b + f) 3 k)))], 1⟩ Q := by
  intro rem
  induction rem with
  | zero =>
    intro k hk
    obtain rfl : k = N := by omega
    refine M.round (M.go rfl ?_)
    refine M.cond rfl (fun hc => ?_) (fun hc => ?_)
    · omega
    · refine M.ren [(0, 0)] ?_ trivial rfl (by repeat' (first | exact True.intro | refine ⟨⟨_, _, rfl, rfl, Wk.rfl⟩, ?_⟩ | refine ⟨⟨_, _, accV_ren rfl, rfl, Wk.rfl⟩, ?_⟩ | refine ⟨⟨_, _, accV_ren rfl, rfl, Wk.acc0⟩, ?_⟩ | refine ⟨⟨_, _, rfl, rfl, Wk.uncap⟩, ?_⟩ | refine ⟨⟨_, _, rfl, rfl, Wk.nil⟩, ?_⟩)) (by repeat' (first | exact True.intro | refine ⟨⟨_, _, _, rfl, rfl, rfl, WkO.rfl⟩, ?_⟩ | refine HeapOK.acc rfl rfl ?_ | refine HeapOK.es rfl rfl ?_)) (e' := [(11, accV 0 4 (entP (seqE (b + f) 3 k))), (0, .c (.p (.int .i64 b))), (1, .c (.p (.int .i64 n))), (2, .c (.p (.int .i64 f))), (3, .c (.p (.int .i64 m))), (10, .c (.p (.tz true 4 Ea none)))]) (h' := ⟨[(0, accO 4 (entP (seqE (b + f) 3 k)))], 1⟩)
      exact M.exit (M.go rfl (M.done hq))
  | succ rem ih =>
    intro k hk
    have ih' := ih (k + 1) (by omega)
    rw [seqE_succ, show entP (seqE (b + f) 3 k ++ [entQ (b + f + (k + 1)) 3]) = entP (seqE (b + f) 3 k) ++ [(entQ (b + f + (k + 1)) 3).pc] by simp [entP]] at ih'
    refine M.round (M.go rfl ?_)
    refine M.cond rfl (fun hc => ?_) (fun hc => ?_)
    · refine M.goN 12 rfl ?_
      have hw0 : IntKind.i64.wrap (f + ((k : Int) + 1)) = f + ((k : Int) + 1) := wr64 (by omega) (by omega)
      have hw : IntKind.i64.wrap (b + (f + ((k : Int) + 1))) = b + f + ((k : Int) + 1) := by rw [wr64 (by omega) (by omega)]; omega
      have hw2 : IntKind.i64.wrap ((k : Int) + 1 + 1) = ((k + 1 : Nat) : Int) + 1 := by rw [wr64 (by omega) (by omega)]; omega
      rw [hw0, hw]
      refine M.wkO (i := 76) (v' := (entQ (b + f + ((k : Int) + 1)) 3).v) rfl Wk.rfl ?_
      refine M.go rfl ?_
      refine M.acc trivial rfl rfl rfl (.own rfl rfl) (by simp) (by rw [entP_len, seqE_len]; simp; omega) ?_
      refine M.go rfl ?_
      rw [hw2]
      exact M.again (XH.ren [(0, 2)] ih' rfl (by repeat' (first | exact True.intro | refine ⟨⟨_, _, rfl, rfl, Wk.rfl⟩, ?_⟩ | refine ⟨⟨_, _, accV_ren rfl, rfl, Wk.rfl⟩, ?_⟩ | refine ⟨⟨_, _, accV_ren rfl, rfl, Wk.acc0⟩, ?_⟩ | refine ⟨⟨_, _, rfl, rfl, Wk.uncap⟩, ?_⟩ | refine ⟨⟨_, _, rfl, rfl, Wk.nil⟩, ?_⟩)) (by repeat' (first | exact True.intro | refine ⟨⟨_, _, _, rfl, rfl, rfl, WkO.rfl⟩, ?_⟩ | refine HeapOK.acc rfl rfl ?_ | refine HeapOK.es rfl rfl ?_)))
    · omega
theorem cutT (b n f m : Int) (L : PLog) (hL : L.ok) (hb : 0 ≤ b) (hb2 : b ≤ 1099511627776) (hf : 0 ≤ f) (hf2 : f ≤ 30) (hm0 : 1 ≤ m) (hm : m ≤ 20) (h3 : ∀ i : Int, f < i → i ≤ f + m → L.term (b + i) = (3, true)) (h2 : ∀ i : Int, 1 ≤ i → i ≤ f → L.term (b + i) = (2, true)) (Q : QX) (hq : Q (.exit 4) [(14, .c (.ptr 0 0)), (0, .c (.p (.int .i64 b)))] L.h) :
    ∀ (rem : Nat) (i : Int), 1 ≤ i → i + rem = f + m + 1 → XH Try.prog base lCut.1.n 0 (lCut.1.c.lp 2) [(14, .c (.ptr 0 0)), (15, .c (.p (.int .i64 i))), (0, .c (.p (.int .i64 b))), (2, .c (.p (.int .i64 f))), (3, .c (.p (.int .i64 m)))] L.h Q := by
  have hwf : IntKind.i64.wrap (f + m) = f + m := wr64 (by omega) (by omega)
  intro rem
  induction rem with
  | zero =>
    intro i h1 hi
    refine M.round (M.go rfl ?_)
    rw [hwf]
    refine M.cond rfl (fun hc => ?_) (fun hc => ?_)
    · omega
    · refine M.ren [(0, 0)] ?_ trivial rfl (by repeat' (first | exact True.intro | refine ⟨⟨_, _, rfl, rfl, Wk.rfl⟩, ?_⟩ | refine ⟨⟨_, _, accV_ren rfl, rfl, Wk.rfl⟩, ?_⟩ | refine ⟨⟨_, _, accV_ren rfl, rfl, Wk.acc0⟩, ?_⟩ | refine ⟨⟨_, _, rfl, rfl, Wk.uncap⟩, ?_⟩ | refine ⟨⟨_, _, rfl, rfl, Wk.nil⟩, ?_⟩)) (by repeat' (first | exact True.intro | refine ⟨⟨_, _, _, rfl, rfl, rfl, WkO.rfl⟩, ?_⟩ | refine HeapOK.acc rfl rfl ?_ | refine HeapOK.es rfl rfl ?_)) (e' := [(14, .c (.ptr 0 0)), (0, .c (.p (.int .i64 b)))]) (h' := L.h)
      exact M.exit (M.go rfl (M.done hq))
  | succ rem ih =>
    intro i h1 hi
    have ih' := ih (i + 1) (by omega) (by omega)
    refine M.round (M.go rfl ?_)
    rw [hwf]
    refine M.cond rfl (fun hc => ?_) (fun hc => ?_)
    · refine M.go rfl ?_
      have hw : IntKind.i64.wrap (b + i) = b + i := wr64 (by omega) (by omega)
      have hw2 : IntKind.i64.wrap (i + 1) = i + 1 := wr64 (by omega) (by omega)
      rw [hw]
      refine M.use (by first | exact True.intro | exact rfl) (Term_spec L hL (b + i) ⟨by omega, by omega⟩) [(0, 0)] rfl rfl rfl (by repeat' (first | exact True.intro | refine ⟨⟨_, _, _, rfl, rfl, rfl, WkO.rfl⟩, ?_⟩ | refine HeapOK.acc rfl rfl ?_ | refine HeapOK.es rfl rfl ?_)) rfl rfl ?_
      by_cases hfi : f < i
      · rw [h3 i hfi (by omega)]
        refine M.go rfl ?_
        refine M.cond rfl (fun _ => ?_) (fun h => absurd hfi h)
        refine M.go rfl ?_
        refine M.decB rfl (fun h => absurd h (by decide)) (fun _ => ?_)
        refine M.go rfl ?_
        refine M.condB rfl (fun h => absurd h (by decide)) (fun _ => ?_)
        refine M.go rfl ?_
        rw [hw2]
        exact M.again (XH.ren [(0, 0)] ih' rfl (by repeat' (first | exact True.intro | refine ⟨⟨_, _, rfl, rfl, Wk.rfl⟩, ?_⟩ | refine ⟨⟨_, _, accV_ren rfl, rfl, Wk.rfl⟩, ?_⟩ | refine ⟨⟨_, _, accV_ren rfl, rfl, Wk.acc0⟩, ?_⟩ | refine ⟨⟨_, _, rfl, rfl, Wk.uncap⟩, ?_⟩ | refine ⟨⟨_, _, rfl, rfl, Wk.nil⟩, ?_⟩)) (by repeat' (first | exact True.intro | refine ⟨⟨_, _, _, rfl, rfl, rfl, WkO.rfl⟩, ?_⟩ | refine HeapOK.acc rfl rfl ?_ | refine HeapOK.es rfl rfl ?_)))
      · rw [h2 i h1 (by omega)]
        refine M.go rfl ?_
        refine M.cond rfl (fun h => absurd h hfi) (fun _ => ?_)
        refine M.go rfl ?_
        refine M.decB rfl (fun h => absurd h (by decide)) (fun _ => ?_)
        refine M.go rfl ?_
        refine M.condB rfl (fun h => absurd h (by decide)) (fun _ => ?_)
        refine M.go rfl ?_
        rw [hw2]
        exact M.again (XH.ren [(0, 0)] ih' rfl (by repeat' (first | exact True.intro | refine ⟨⟨_, _, rfl, rfl, Wk.rfl⟩, ?_⟩ | refine ⟨⟨_, _, accV_ren rfl, rfl, Wk.rfl⟩, ?_⟩ | refine ⟨⟨_, _, accV_ren rfl, rfl, Wk.acc0⟩, ?_⟩ | refine ⟨⟨_, _, rfl, rfl, Wk.uncap⟩, ?_⟩ | refine ⟨⟨_, _, rfl, rfl, Wk.nil⟩, ?_⟩)) (by repeat' (first | exact True.intro | refine ⟨⟨_, _, _, rfl, rfl, rfl, WkO.rfl⟩, ?_⟩ | refine HeapOK.acc rfl rfl ?_ | refine HeapOK.es rfl rfl ?_)))
    · omega
end Go.Proofs.Yteegdhfekemhmaa

namespace Go.Proofs.Yteegdhfekemhmaa
open Go.RowKit Sim Go Sym
set_option maxRecDepth 100000
set_option linter.unusedVariables false
set_option linter.unusedSimpArgs false
variable {base : Nat}
theorem begun_spec : CallS Try.prog base 30 [] ⟨[], 0⟩ (.c (.p (.bool true))) ⟨[], 0⟩ := CallS.closed (m := 2000) mixed noNG (by kernel_rfl)
def cutS (b : Int) : Snp := ⟨b, 1, true, [], none, true, [], none⟩
theorem cutS_ok (b : Int) (hb : 0 ≤ b) (hb2 : b ≤ 1099511627776) : (cutS b).ok := ⟨⟨by simp [cutS]; omega, by simp [cutS]; omega⟩, ⟨by simp [cutS], by simp [cutS]⟩, ⟨by simp [cutS], by simp [cutS]⟩, ⟨by simp [cutS], by simp [cutS]⟩⟩
def cutL (b : Int) (n : Nat) : PLog := ⟨cutS b, seqE b 2 n, true, none⟩
def cutL2 (b : Int) (f m : Nat) : PLog := ⟨cutS b, seqE b 2 f ++ seqE (b + f) 3 m, true, none⟩
theorem cutL_ok (b : Int) (n : Nat) (hb : 0 ≤ b) (hb2 : b ≤ 1099511627776) (hn : n ≤ 30) : (cutL b n).ok := ⟨cutS_ok b hb hb2, hb, by simp [PLog.last, cutL, cutS, seqE_len]; omega, by simp [cutL, seqE_len]; omega, seqE_ok b 2 n hb (by omega) ⟨by omega, by omega⟩⟩
theorem cutL2_ok (b : Int) (f m : Nat) (hb : 0 ≤ b) (hb2 : b ≤ 1099511627776) (hf : f ≤ 30) (hm : m ≤ 20) : (cutL2 b f m).ok := ⟨cutS_ok b hb hb2, hb, by simp [PLog.last, cutL2, cutS, seqE_len]; omega, by simp [cutL2, seqE_len]; omega, by
  intro e he
  simp only [cutL2, List.mem_append] at he
  rcases he with he | he
  · exact seqE_ok b 2 f hb (by omega) ⟨by omega, by omega⟩ e he
  · exact seqE_ok (b + f) 3 m (by omega) (by omega) ⟨by omega, by omega⟩ e he⟩
theorem cutL2_last (b : Int) (f m : Nat) : (cutL2 b f m).last = b + (f + m) := by simp [PLog.last, cutL2, cutS, seqE_len]
theorem cut_new (b : Int) (n : Nat) (hb : 0 ≤ b) (hb2 : b ≤ 1099511627776) (hn : n ≤ 30) : newOk (cutS b) (seqE b 2 n) = true := by
  have h1 : ¬ b < 0 := by omega
  simp [newOk, cutS, h1, seqE_may 2 (by omega) n b 1 (by omega) (by omega)]
theorem seqE_get (b t : Int) (k j : Nat) (h : j < k) : (seqE b t k)[j]? = some (entQ (b + (j + 1)) t) := by simp [seqE, h]
theorem cut_term2 (b : Int) (f m : Nat) (i : Int) (h1 : 1 ≤ i) (h2 : i ≤ f) : (cutL2 b f m).term (b + i) = (2, true) := by
  have hl : (cutL2 b f m).last = b + (f + m) := cutL2_last b f m
  have h3 : (cutL2 b f m).S.ix = b := rfl
  have h4 : (b + i - b - 1).toNat < f := by omega
  rw [PLog.term, if_neg (by rw [h3]; omega), if_neg (by rw [h3, hl]; omega), PLog.at', h3]
  have : (seqE b 2 f ++ seqE (b + f) 3 m)[(b + i - b - 1).toNat]? = some (entQ (b + (((b + i - b - 1).toNat : Nat) + 1)) 2) := by rw [List.getElem?_append_left (by rw [seqE_len]; exact h4), seqE_get b 2 f _ h4]
  rw [List.getD_eq_getElem?_getD, show (cutL2 b f m).E = seqE b 2 f ++ seqE (b + f) 3 m from rfl, this]
  rfl
theorem cut_term3 (b : Int) (f m : Nat) (i : Int) (h1 : f < i) (h2 : i ≤ f + m) : (cutL2 b f m).term (b + i) = (3, true) := by
  have hl : (cutL2 b f m).last = b + (f + m) := cutL2_last b f m
  have h3 : (cutL2 b f m).S.ix = b := rfl
  rw [PLog.term, if_neg (by rw [h3]; omega), if_neg (by rw [h3, hl]; omega), PLog.at', h3]
  have h5 : (b + i - b - 1).toNat - f < m := by omega
  have : ∃ x, (seqE b 2 f ++ seqE (b + f) 3 m)[(b + i - b - 1).toNat]? = some (entQ x 3) := by rw [List.getElem?_append_right (by rw [seqE_len]; omega), seqE_len, seqE_get _ 3 m _ h5]; exact ⟨_, rfl⟩
  obtain ⟨x, hx⟩ := this
  rw [List.getD_eq_getElem?_getD, show (cutL2 b f m).E = seqE b 2 f ++ seqE (b + f) 3 m from rfl, hx]
  rfl
theorem cut_put (b : Int) (n f m : Nat) (hb : 0 ≤ b) (hb2 : b ≤ 1099511627776) (hn : n ≤ 30) (hf : f ≤ n) (hm : m + 1 ≤ 20) : (cutL b n).putOk (entQ (b + f + 1) 3 :: seqE (b + f + 1) 3 m) = true := by
  have hl : (cutL b n).last = b + n := by simp [PLog.last, cutL, cutS, seqE_len]
  have h3 : (cutL b n).S.ix = b := rfl
  have ht : ((cutL b n).term (b + f + 1 - 1)).1 ≤ 3 := by
    rw [PLog.term]
    split
    · exact (by decide : (1 : Int) ≤ 3)
    · rw [h3, hl, if_neg (by omega), PLog.at', h3]
      have h4 : (b + f + 1 - 1 - b - 1).toNat < n := by omega
      have : (seqE b 2 n)[(b + f + 1 - 1 - b - 1).toNat]? = some (entQ (b + (((b + f + 1 - 1 - b - 1).toNat : Nat) + 1)) 2) := seqE_get b 2 n _ h4
      rw [List.getD_eq_getElem?_getD, show (cutL b n).E = seqE b 2 n from rfl, this]
      exact (by decide : (2 : Int) ≤ 3)
  have hm2 := seqE_may 3 (by omega) (m + 1) (b + f) ((cutL b n).term (b + f + 1 - 1)).1 ht (by omega)
  rw [seqE_cons, show b + f = b + f + 1 - 1 by omega] at hm2
  rw [PLog.putOk, h3, hl, show (entQ (b + f + 1) 3).ix = b + f + 1 from rfl]
  rw [show b + (f : Int) + 1 - 1 + 1 = b + f + 1 by omega] at hm2
  rw [hm2]
  simp
  omega
theorem cut_put_eq (b : Int) (n f m : Nat) (hf : f ≤ n) : (cutL b n).put (entQ (b + f + 1) 3 :: seqE (b + f + 1) 3 m) = cutL2 b f (m + 1) := by
  have h1 : (b + (f : Int) + 1 - b - 1).toNat = f := by omega
  have h2 : (seqE b 2 n).take f = seqE b 2 f := by simp [seqE, ← List.map_take, List.take_range, Nat.min_eq_left hf]
  rw [← seqE_cons]
  simp only [PLog.put, cutL, cutL2, seqE_own]
  rw [show ((seqE (b + f) 3 (m + 1)).headD default).ix = b + f + 1 by rw [seqE_cons]; rfl, show (cutS b).ix = b from rfl, h1, h2]
theorem LogCut_spec (b n f m : Int) : CallS Try.prog base 6 [.c (.p (.int .i64 b)), .c (.p (.int .i64 n)), .c (.p (.int .i64 f)), .c (.p (.int .i64 m))] ⟨[], 0⟩ (.c (.p (.bool true))) ⟨[], 0⟩ := by
  refine CallS.of noNG lCut.2 rfl (M.start (M.go rfl ?_))
  refine M.use0 trivial begun_spec rfl rfl rfl ?_
  refine M.go rfl ?_
  refine M.dec rfl (fun h => ?_) (fun h1 => ?_)
  · refine M.go rfl ?_
    exact M.ret (M.go rfl (M.done (finQ.ret [] rfl rfl rfl (by first | exact Wk.rfl | exact Wk.uncap | exact Wk.nil | exact Wk.b1 rfl | exact Wk.t2 Wk.rfl (Wk.b1 rfl)) (by repeat' (first | exact True.intro | refine ⟨⟨_, _, _, rfl, rfl, rfl, WkO.rfl⟩, ?_⟩ | refine HeapOK.acc rfl rfl ?_ | refine HeapOK.es rfl rfl ?_)))))
  refine M.go rfl ?_
  refine M.dec rfl (fun h => ?_) (fun h2 => ?_)
  · refine M.go rfl ?_
    exact M.ret (M.go rfl (M.done (finQ.ret [] rfl rfl rfl (by first | exact Wk.rfl | exact Wk.uncap | exact Wk.nil | exact Wk.b1 rfl | exact Wk.t2 Wk.rfl (Wk.b1 rfl)) (by repeat' (first | exact True.intro | refine ⟨⟨_, _, _, rfl, rfl, rfl, WkO.rfl⟩, ?_⟩ | refine HeapOK.acc rfl rfl ?_ | refine HeapOK.es rfl rfl ?_)))))
  refine M.go rfl ?_
  refine M.dec rfl (fun h => ?_) (fun h3 => ?_)
  · refine M.go rfl ?_
    exact M.ret (M.go rfl (M.done (finQ.ret [] rfl rfl rfl (by first | exact Wk.rfl | exact Wk.uncap | exact Wk.nil | exact Wk.b1 rfl | exact Wk.t2 Wk.rfl (Wk.b1 rfl)) (by repeat' (first | exact True.intro | refine ⟨⟨_, _, _, rfl, rfl, rfl, WkO.rfl⟩, ?_⟩ | refine HeapOK.acc rfl rfl ?_ | refine HeapOK.es rfl rfl ?_)))))
  refine M.go rfl ?_
  refine M.dec rfl (fun h => ?_) (fun h4 => ?_)
  · refine M.go rfl ?_
    exact M.ret (M.go rfl (M.done (finQ.ret [] rfl rfl rfl (by first | exact Wk.rfl | exact Wk.uncap | exact Wk.nil | exact Wk.b1 rfl | exact Wk.t2 Wk.rfl (Wk.b1 rfl)) (by repeat' (first | exact True.intro | refine ⟨⟨_, _, _, rfl, rfl, rfl, WkO.rfl⟩, ?_⟩ | refine HeapOK.acc rfl rfl ?_ | refine HeapOK.es rfl rfl ?_)))))
  refine M.go rfl ?_
  refine M.dec rfl (fun h => ?_) (fun h5 => ?_)
  · refine M.go rfl ?_
    exact M.ret (M.go rfl (M.done (finQ.ret [] rfl rfl rfl (by first | exact Wk.rfl | exact Wk.uncap | exact Wk.nil | exact Wk.b1 rfl | exact Wk.t2 Wk.rfl (Wk.b1 rfl)) (by repeat' (first | exact True.intro | refine ⟨⟨_, _, _, rfl, rfl, rfl, WkO.rfl⟩, ?_⟩ | refine HeapOK.acc rfl rfl ?_ | refine HeapOK.es rfl rfl ?_)))))
  refine M.go rfl ?_
  refine M.dec rfl (fun h => ?_) (fun h6 => ?_)
  · refine M.go rfl ?_
    exact M.ret (M.go rfl (M.done (finQ.ret [] rfl rfl rfl (by first | exact Wk.rfl | exact Wk.uncap | exact Wk.nil | exact Wk.b1 rfl | exact Wk.t2 Wk.rfl (Wk.b1 rfl)) (by repeat' (first | exact True.intro | refine ⟨⟨_, _, _, rfl, rfl, rfl, WkO.rfl⟩, ?_⟩ | refine HeapOK.acc rfl rfl ?_ | refine HeapOK.es rfl rfl ?_)))))
  refine M.go rfl ?_
  refine M.dec rfl (fun h => ?_) (fun h7 => ?_)
  · refine M.go rfl ?_
    exact M.ret (M.go rfl (M.done (finQ.ret [] rfl rfl rfl (by first | exact Wk.rfl | exact Wk.uncap | exact Wk.nil | exact Wk.b1 rfl | exact Wk.t2 Wk.rfl (Wk.b1 rfl)) (by repeat' (first | exact True.intro | refine ⟨⟨_, _, _, rfl, rfl, rfl, WkO.rfl⟩, ?_⟩ | refine HeapOK.acc rfl rfl ?_ | refine HeapOK.es rfl rfl ?_)))))
  refine M.go rfl ?_
  refine M.cond rfl (fun h => ?_) (fun h8 => ?_)
  · refine M.go rfl ?_
    exact M.ret (M.go rfl (M.done (finQ.ret [] rfl rfl rfl (by first | exact Wk.rfl | exact Wk.uncap | exact Wk.nil | exact Wk.b1 rfl | exact Wk.t2 Wk.rfl (Wk.b1 rfl)) (by repeat' (first | exact True.intro | refine ⟨⟨_, _, _, rfl, rfl, rfl, WkO.rfl⟩, ?_⟩ | refine HeapOK.acc rfl rfl ?_ | refine HeapOK.es rfl rfl ?_)))))
  refine M.go rfl ?_
  obtain ⟨N, hN⟩ : ∃ N : Nat, n = N := ⟨n.toNat, by omega⟩
  obtain ⟨F, hF⟩ : ∃ F : Nat, f = F := ⟨f.toNat, by omega⟩
  obtain ⟨M', hM⟩ : ∃ M' : Nat, m = (M' + 1 : Nat) := ⟨m.toNat - 1, by omega⟩
  subst hN hF hM
  refine M.loop (XH.ren [(0, 0)] (cutA b N F (M' + 1 : Nat) N rfl (by omega) (by omega) (by omega) _ ?_ N 0 (by omega)) rfl (by repeat' (first | exact True.intro | refine ⟨⟨_, _, rfl, rfl, Wk.rfl⟩, ?_⟩ | refine ⟨⟨_, _, accV_ren rfl, rfl, Wk.rfl⟩, ?_⟩ | refine ⟨⟨_, _, accV_ren rfl, rfl, Wk.acc0⟩, ?_⟩ | refine ⟨⟨_, _, rfl, rfl, Wk.uncap⟩, ?_⟩ | refine ⟨⟨_, _, rfl, rfl, Wk.nil⟩, ?_⟩)) (by repeat' (first | exact True.intro | refine ⟨⟨_, _, _, rfl, rfl, rfl, WkO.rfl⟩, ?_⟩ | refine HeapOK.acc rfl rfl ?_ | refine HeapOK.es rfl rfl ?_)))
  refine M.q (M.goN 2 rfl ?_)
  refine M.accF (i := 10) rfl rfl ?_
  refine M.go rfl ?_
  refine M.ren [] ?_ trivial rfl (by repeat' (first | exact True.intro | refine ⟨⟨_, _, rfl, rfl, Wk.rfl⟩, ?_⟩ | refine ⟨⟨_, _, accV_ren rfl, rfl, Wk.rfl⟩, ?_⟩ | refine ⟨⟨_, _, accV_ren rfl, rfl, Wk.acc0⟩, ?_⟩ | refine ⟨⟨_, _, rfl, rfl, Wk.uncap⟩, ?_⟩ | refine ⟨⟨_, _, rfl, rfl, Wk.nil⟩, ?_⟩)) (by repeat' (first | exact True.intro | refine ⟨⟨_, _, _, rfl, rfl, rfl, WkO.rfl⟩, ?_⟩ | refine HeapOK.acc rfl rfl ?_ | refine HeapOK.es rfl rfl ?_)) (e' := [(13, .c (.p (.int .i64 1))), (0, .c (.p (.int .i64 b))), (1, .c (.p (.int .i64 N))), (2, .c (.p (.int .i64 F))), (3, .c (.p (.int .i64 (M' + 1 : Nat)))), (10, .c (.p (.tz true 4 (entP (seqE b 2 N)) none))), (11, .c (.p (.tz true 0 [] none)))]) (h' := ⟨[], 0⟩)
  refine M.loop (XH.ren [(0, 0)] (cutB b N F (M' + 1 : Nat) (entP (seqE b 2 N)) (M' + 1) rfl (by omega) (by omega) (by omega) (by omega) (by omega) _ ?_ (M' + 1) 0 (by omega)) rfl (by repeat' (first | exact True.intro | refine ⟨⟨_, _, rfl, rfl, Wk.rfl⟩, ?_⟩ | refine ⟨⟨_, _, accV_ren rfl, rfl, Wk.rfl⟩, ?_⟩ | refine ⟨⟨_, _, accV_ren rfl, rfl, Wk.acc0⟩, ?_⟩ | refine ⟨⟨_, _, rfl, rfl, Wk.uncap⟩, ?_⟩ | refine ⟨⟨_, _, rfl, rfl, Wk.nil⟩, ?_⟩)) (by repeat' (first | exact True.intro | refine ⟨⟨_, _, _, rfl, rfl, rfl, WkO.rfl⟩, ?_⟩ | refine HeapOK.acc rfl rfl ?_ | refine HeapOK.es rfl rfl ?_)))
  refine M.q (M.goN 2 rfl ?_)
  refine M.accF (i := 11) rfl rfl ?_
  refine M.ren [] ?_ trivial rfl (by repeat' (first | exact True.intro | refine ⟨⟨_, _, rfl, rfl, Wk.rfl⟩, ?_⟩ | refine ⟨⟨_, _, accV_ren rfl, rfl, Wk.rfl⟩, ?_⟩ | refine ⟨⟨_, _, accV_ren rfl, rfl, Wk.acc0⟩, ?_⟩ | refine ⟨⟨_, _, rfl, rfl, Wk.uncap⟩, ?_⟩ | refine ⟨⟨_, _, rfl, rfl, Wk.nil⟩, ?_⟩)) (by repeat' (first | exact True.intro | refine ⟨⟨_, _, _, rfl, rfl, rfl, WkO.rfl⟩, ?_⟩ | refine HeapOK.acc rfl rfl ?_ | refine HeapOK.es rfl rfl ?_)) (e' := [(0, .c (.p (.int .i64 b))), (1, .c (.p (.int .i64 N))), (2, .c (.p (.int .i64 F))), (3, .c (.p (.int .i64 (M' + 1 : Nat)))), (10, .c (.p (.tz true 4 (entP (seqE b 2 N)) none))), (11, .c (.p (.tz true 4 (entP (seqE (b + F) 3 (M' + 1))) none)))]) (h' := ⟨[], 0⟩)
  refine M.go rfl ?_
  refine M.wkO (i := 80) (v' := (cutS b).v) rfl Wk.rfl ?_
  have hb : 0 ≤ b := by omega
  have hb2 : b ≤ 1099511627776 := by omega
  refine M.use trivial (New_yes (cutS b) (cutS_ok b hb hb2) true none (seqE b 2 N) (by rw [seqE_len]; omega) (seqE_ok b 2 N hb (by omega) ⟨by omega, by omega⟩) (cut_new b N hb hb2 (by omega))) [] rfl rfl rfl (by repeat' (first | exact True.intro | refine ⟨⟨_, _, _, rfl, rfl, rfl, WkO.rfl⟩, ?_⟩ | refine HeapOK.acc rfl rfl ?_ | refine HeapOK.es rfl rfl ?_)) rfl rfl ?_
  refine M.go rfl ?_
  rw [seqE_own]
  rw [seqE_cons (b + F)]
  have hL1 := cutL_ok b N hb hb2 (by omega)
  have hL2 := cutL2_ok b F (M' + 1) hb hb2 (by omega) (by omega)
  have hok : ∀ e ∈ entQ (b + F + 1) 3 :: seqE (b + F + 1) 3 M', e.ok := by rw [← seqE_cons]; exact seqE_ok (b + F) 3 (M' + 1) (by omega) (by omega) ⟨by omega, by omega⟩
  have hl1 : (cutL b N).last = b + N := by simp [PLog.last, cutL, cutS, seqE_len]
  have hput := Put_yes (base := base) (cutL b N) hL1 (by omega) true none (entQ (b + F + 1) 3) (seqE (b + F + 1) 3 M') (by simp [seqE_len]; omega) hok (cut_put b N F M' hb hb2 (by omega) (by omega) (by omega))
  rw [cut_put_eq b N F M' (by omega)] at hput
  refine M.use rfl hput [(0, 0)] rfl rfl rfl (by repeat' (first | exact True.intro | refine ⟨⟨_, _, _, rfl, rfl, rfl, WkO.rfl⟩, ?_⟩ | refine HeapOK.acc rfl rfl ?_ | refine HeapOK.es rfl rfl ?_)) rfl rfl ?_
  refine M.go rfl ?_
  refine M.decB rfl (fun h => absurd h (by decide)) (fun _ => ?_)
  refine M.go rfl ?_
  refine M.use (by first | exact True.intro | exact rfl) (Last_spec _ hL2) [(0, 0)] rfl rfl rfl (by repeat' (first | exact True.intro | refine ⟨⟨_, _, _, rfl, rfl, rfl, WkO.rfl⟩, ?_⟩ | refine HeapOK.acc rfl rfl ?_ | refine HeapOK.es rfl rfl ?_)) rfl rfl ?_
  refine M.go rfl ?_
  have hwl : IntKind.i64.wrap ((F : Int) + ((M' + 1 : Nat) : Int)) = F + ((M' + 1 : Nat) : Int) := wr64 (by omega) (by omega)
  have hwl2 : IntKind.i64.wrap (b + ((F : Int) + ((M' + 1 : Nat) : Int))) = b + (F + ((M' + 1 : Nat) : Int)) := wr64 (by omega) (by omega)
  have hl2 := cutL2_last b F (M' + 1)
  rw [hwl, hwl2]
  refine M.decN rfl (fun h => absurd hl2 h) (fun _ => ?_)
  refine M.go rfl ?_
  refine M.use (by first | exact True.intro | exact rfl) (Base_spec _) [(0, 0)] rfl rfl rfl (by repeat' (first | exact True.intro | refine ⟨⟨_, _, _, rfl, rfl, rfl, WkO.rfl⟩, ?_⟩ | refine HeapOK.acc rfl rfl ?_ | refine HeapOK.es rfl rfl ?_)) rfl rfl ?_
  refine M.go rfl ?_
  refine M.condN rfl (fun h => absurd rfl h) (fun _ => ?_)
  refine M.go rfl ?_
  refine M.loop (XH.ren [(0, 0)] (cutT b N F (M' + 1 : Nat) (cutL2 b F (M' + 1)) hL2 hb hb2 (by omega) (by omega) (by omega) (by omega) (fun i g1 g2 => cut_term3 b F (M' + 1) i g1 g2) (fun i g1 g2 => cut_term2 b F (M' + 1) i g1 g2) _ ?_ (F + M' + 1) 1 (by omega) (by omega)) rfl (by repeat' (first | exact True.intro | refine ⟨⟨_, _, rfl, rfl, Wk.rfl⟩, ?_⟩ | refine ⟨⟨_, _, accV_ren rfl, rfl, Wk.rfl⟩, ?_⟩ | refine ⟨⟨_, _, accV_ren rfl, rfl, Wk.acc0⟩, ?_⟩ | refine ⟨⟨_, _, rfl, rfl, Wk.uncap⟩, ?_⟩ | refine ⟨⟨_, _, rfl, rfl, Wk.nil⟩, ?_⟩)) (by repeat' (first | exact True.intro | refine ⟨⟨_, _, _, rfl, rfl, rfl, WkO.rfl⟩, ?_⟩ | refine HeapOK.acc rfl rfl ?_ | refine HeapOK.es rfl rfl ?_)))
  refine M.q (M.goN 7 rfl ?_)
  refine M.wkO (i := 134) (v' := (entQ b 3).v) rfl Wk.rfl ?_
  refine M.goN 1 rfl ?_
  refine M.freezeO (i := 135) rfl rfl rfl ?_
  have hlt : (cutL2 b F (M' + 1)).last < 9223372036854775807 := by rw [hl2]; omega
  have hix : (cutL2 b F (M' + 1)).S.ix = b := rfl
  refine M.use (by first | exact True.intro | exact rfl) (Put_no (cutL2 b F (M' + 1)) hL2 hlt false (some 1) (entQ b 3) [] (by simp) (by intro e he; obtain rfl := List.mem_singleton.1 he; exact ⟨⟨by show _ ≤ b; omega, by show b ≤ _; omega⟩, ⟨by simp [entQ], by simp [entQ]⟩, ⟨by simp [entQ], by simp [entQ]⟩, ⟨by simp [entQ], by simp [entQ]⟩⟩) (by rw [PLog.putOk, hix, show (entQ b 3).ix = b from rfl]; simp)) [(0, 0)] rfl rfl rfl (by repeat' (first | exact True.intro | refine ⟨⟨_, _, _, rfl, rfl, rfl, WkO.rfl⟩, ?_⟩ | refine HeapOK.acc rfl rfl ?_ | refine HeapOK.es rfl rfl ?_)) rfl rfl ?_
  refine M.go rfl ?_
  refine M.decB rfl (fun _ => ?_) (fun h => absurd h (by decide))
  obtain ⟨y, hy⟩ : ∃ y : Int, y = (cutL2 b F (M' + 1)).last := ⟨_, rfl⟩
  have hy2 : y = b + (F + ((M' + 1 : Nat) : Int)) := hy.trans hl2
  have hw1 : IntKind.i64.wrap (y + 1) = y + 1 := wr64 (by omega) (by omega)
  have hw2 : IntKind.i64.wrap (y + 2) = y + 2 := wr64 (by omega) (by omega)
  have hlast := Last_spec (base := base) _ hL2
  rw [← hy] at hlast
  rw [← hy] at hlt
  refine M.go rfl ?_
  refine M.use (by first | exact True.intro | exact rfl) (hlast) [(0, 0)] rfl rfl rfl (by repeat' (first | exact True.intro | refine ⟨⟨_, _, _, rfl, rfl, rfl, WkO.rfl⟩, ?_⟩ | refine HeapOK.acc rfl rfl ?_ | refine HeapOK.es rfl rfl ?_)) rfl rfl ?_
  refine M.goN 2 rfl ?_
  rw [hw2]
  refine M.wkO (i := 143) (v' := (entQ (y + 2) 3).v) rfl Wk.rfl ?_
  refine M.goN 1 rfl ?_
  refine M.freezeO (i := 144) rfl rfl rfl ?_
  have hn1 : (cutL2 b F (M' + 1)).putOk [entQ (y + 2) 3] = false := by
    have g : ¬ y + 2 ≤ y + 1 := by omega
    rw [PLog.putOk, ← hy, show (entQ (y + 2) 3).ix = y + 2 from rfl, decide_eq_false g]; simp
  refine M.use (by first | exact True.intro | exact rfl) (Put_no (cutL2 b F (M' + 1)) hL2 (by rw [← hy]; exact hlt) false (some 1) (entQ (y + 2) 3) [] (by simp) (by intro e he; obtain rfl := List.mem_singleton.1 he; exact ⟨⟨by show _ ≤ y + 2; omega, by show y + 2 ≤ _; omega⟩, ⟨by simp [entQ], by simp [entQ]⟩, ⟨by simp [entQ], by simp [entQ]⟩, ⟨by simp [entQ], by simp [entQ]⟩⟩) hn1) [(0, 0)] rfl rfl rfl (by repeat' (first | exact True.intro | refine ⟨⟨_, _, _, rfl, rfl, rfl, WkO.rfl⟩, ?_⟩ | refine HeapOK.acc rfl rfl ?_ | refine HeapOK.es rfl rfl ?_)) rfl rfl ?_
  refine M.go rfl ?_
  refine M.decB rfl (fun _ => ?_) (fun h => absurd h (by decide))
  refine M.go rfl ?_
  refine M.use (by first | exact True.intro | exact rfl) (hlast) [(0, 0)] rfl rfl rfl (by repeat' (first | exact True.intro | refine ⟨⟨_, _, _, rfl, rfl, rfl, WkO.rfl⟩, ?_⟩ | refine HeapOK.acc rfl rfl ?_ | refine HeapOK.es rfl rfl ?_)) rfl rfl ?_
  refine M.goN 2 rfl ?_
  rw [hw1]
  refine M.wkO (i := 153) (v' := (entQ (y + 1) 2).v) rfl Wk.rfl ?_
  refine M.goN 1 rfl ?_
  refine M.freezeO (i := 154) rfl rfl rfl ?_
  have hn2 : (cutL2 b F (M' + 1)).putOk [entQ (y + 1) 2] = false := by
    have g : (cutL2 b F (M' + 1)).term (y + 1 - 1) = (3, true) := by
      rw [show y + 1 - 1 = b + (F + ((M' + 1 : Nat) : Int)) by omega]; exact cut_term3 b F (M' + 1) _ (by omega) (by omega)
    rw [PLog.putOk, show (entQ (y + 1) 2).ix = y + 1 from rfl, g, mayF, entB, show (entQ (y + 1) 2).tm = 2 from rfl, decide_eq_true (show (2 : Int) < 3 by decide)]; simp
  refine M.use (by first | exact True.intro | exact rfl) (Put_no (cutL2 b F (M' + 1)) hL2 (by rw [← hy]; exact hlt) false (some 1) (entQ (y + 1) 2) [] (by simp) (by intro e he; obtain rfl := List.mem_singleton.1 he; exact ⟨⟨by show _ ≤ y + 1; omega, by show y + 1 ≤ _; omega⟩, ⟨by simp [entQ], by simp [entQ]⟩, ⟨by simp [entQ], by simp [entQ]⟩, ⟨by simp [entQ], by simp [entQ]⟩⟩) hn2) [(0, 0)] rfl rfl rfl (by repeat' (first | exact True.intro | refine ⟨⟨_, _, _, rfl, rfl, rfl, WkO.rfl⟩, ?_⟩ | refine HeapOK.acc rfl rfl ?_ | refine HeapOK.es rfl rfl ?_)) rfl rfl ?_
  refine M.go rfl ?_
  exact M.ret (M.go rfl (M.done (finQ.ret [] rfl rfl rfl (by first | exact Wk.rfl | exact Wk.uncap | exact Wk.nil | exact Wk.b1 rfl | exact Wk.t2 Wk.rfl (Wk.b1 rfl)) (by repeat' (first | exact True.intro | refine ⟨⟨_, _, _, rfl, rfl, rfl, WkO.rfl⟩, ?_⟩ | refine HeapOK.acc rfl rfl ?_ | refine HeapOK.es rfl rfl ?_)))))
theorem logCut_calls (w : World) (b n f m : Int) : Calls Try.prog 6 #[.int .i64 b, .int .i64 n, .int .i64 f, .int .i64 m] w fun e w' => e = .returned (.bool true) ∧ Below w.heap.size w w' :=
  CallS.law (args' := [.int .i64 b, .int .i64 n, .int .i64 f, .int .i64 m]) (LogCut_spec b n f m) ⟨rfl, rfl, rfl, rfl, trivial⟩
#print axioms logCut_calls
end Go.Proofs.Yteegdhfekemhmaa

namespace Go.Proofs.Yteegdhfekemhmaa
open Go.RowKit Sim Go Sym
set_option maxRecDepth 100000
set_option linter.unusedVariables false
set_option linter.unusedSimpArgs false
variable {base : Nat}
noncomputable def lEqi : {F : LF // lowerF Try.prog 32 = some F} := ⟨_, rfl⟩
theorem eqi_loop (za zb : Bool) (ca cb : Option Nat) (a b : List Int) (hl : a.length ≤ 100000000000) (Q : QX) :
    ∀ (ra rb pa pb : List Int), a = pa ++ ra → b = pb ++ rb → pa.length = pb.length → ra.length = rb.length → (ra = rb → Q (.exit 0) [] ⟨[], 0⟩) → (¬ ra = rb → Q .ret [(4, .c (.p (.bool false)))] ⟨[], 0⟩) →
      XH Try.prog base lEqi.1.n 0 (lEqi.1.c.lp 0) [(0, .c (.p (.tz za 1 (inP a) ca))), (1, .c (.p (.tz zb 1 (inP b) cb))), (5, .c (.p (.int .i64 pa.length)))] ⟨[], 0⟩ Q := by
  intro ra
  induction ra with
  | nil =>
    intro rb pa pb h1 h2 h3 h4 hq hr
    refine M.round (M.go rfl ?_)
    have h5 : (inP a).length = pa.length := by rw [h1, inP_len]; simp
    refine M.cond rfl (fun hc => ?_) (fun hc => ?_)
    · rw [h5] at hc; omega
    · refine M.ren [] ?_ trivial rfl (by repeat' (first | exact True.intro | refine ⟨⟨_, _, rfl, rfl, Wk.rfl⟩, ?_⟩ | refine ⟨⟨_, _, accV_ren rfl, rfl, Wk.rfl⟩, ?_⟩ | refine ⟨⟨_, _, accV_ren rfl, rfl, Wk.acc0⟩, ?_⟩ | refine ⟨⟨_, _, rfl, rfl, Wk.uncap⟩, ?_⟩ | refine ⟨⟨_, _, rfl, rfl, Wk.nil⟩, ?_⟩)) (by repeat' (first | exact True.intro | refine ⟨⟨_, _, _, rfl, rfl, rfl, WkO.rfl⟩, ?_⟩ | refine HeapOK.acc rfl rfl ?_ | refine HeapOK.es rfl rfl ?_)) (e' := []) (h' := ⟨[], 0⟩)
      exact M.exit (M.go rfl (M.done (hq (by cases rb <;> simp_all))))
  | cons x ra ih =>
    intro rb pa pb h1 h2 h3 h4 hq hr
    cases rb with
    | nil => simp at h4
    | cons y rb =>
      refine M.round (M.go rfl ?_)
      have h5 : (inP a).length = pa.length + (ra.length + 1) := by rw [h1, inP_len]; simp
      have hw : IntKind.i64.wrap ((pa.length : Int) + 1) = ((pa ++ [x]).length : Int) := by rw [inP_len] at h5; rw [wr64 (by omega) (by omega)]; simp
      have hu : (inP a)[((pa.length : Int)).toNat]? = some (.int .i64 x) := by rw [h1]; exact at_app _ _ _ _
      have hv : (inP b)[((pa.length : Int)).toNat]? = some (.int .i64 y) := by rw [h2, h3]; exact at_app _ _ _ _
      refine M.cond rfl (fun hc => ?_) (fun hc => ?_)
      · refine M.go rfl (M.regD (MD.go rfl ?_))
        refine MD.op trivial (SOp.ia rfl rfl (by omega) hu) (MD.go rfl ?_)
        refine MD.op trivial (SOp.ld1e rfl hu rfl rfl rfl) (MD.go rfl ?_)
        refine MD.op trivial (SOp.ia rfl rfl (by omega) hv) (MD.go rfl ?_)
        refine MD.op trivial (SOp.ld1e rfl hv rfl rfl rfl) (MD.go rfl (MD.nil mixed (Fnl.nodup rfl) (M.go rfl ?_)))
        refine M.condN rfl (fun hxy => ?_) (fun hxy => ?_)
        · refine M.go rfl ?_
          refine M.ren [] ?_ trivial rfl (by repeat' (first | exact True.intro | refine ⟨⟨_, _, rfl, rfl, Wk.rfl⟩, ?_⟩ | refine ⟨⟨_, _, accV_ren rfl, rfl, Wk.rfl⟩, ?_⟩ | refine ⟨⟨_, _, accV_ren rfl, rfl, Wk.acc0⟩, ?_⟩ | refine ⟨⟨_, _, rfl, rfl, Wk.uncap⟩, ?_⟩ | refine ⟨⟨_, _, rfl, rfl, Wk.nil⟩, ?_⟩)) (by repeat' (first | exact True.intro | refine ⟨⟨_, _, _, rfl, rfl, rfl, WkO.rfl⟩, ?_⟩ | refine HeapOK.acc rfl rfl ?_ | refine HeapOK.es rfl rfl ?_)) (e' := [(4, .c (.p (.bool false)))]) (h' := ⟨[], 0⟩)
          exact M.ret (M.go rfl (M.done (hr (fun h => hxy (by injection h)))))
        · refine M.go rfl ?_
          rw [hw]
          subst hxy
          refine M.again (XH.ren [] (ih rb (pa ++ [x]) (pb ++ [x]) (by rw [h1]; simp) (by rw [h2]; simp) (by simp [h3]) (by simpa using h4) (fun h => hq (by rw [h])) (fun h => hr (fun h' => h (by injection h')))) rfl (by repeat' (first | exact True.intro | refine ⟨⟨_, _, rfl, rfl, Wk.rfl⟩, ?_⟩ | refine ⟨⟨_, _, accV_ren rfl, rfl, Wk.rfl⟩, ?_⟩ | refine ⟨⟨_, _, accV_ren rfl, rfl, Wk.acc0⟩, ?_⟩ | refine ⟨⟨_, _, rfl, rfl, Wk.uncap⟩, ?_⟩ | refine ⟨⟨_, _, rfl, rfl, Wk.nil⟩, ?_⟩)) (by repeat' (first | exact True.intro | refine ⟨⟨_, _, _, rfl, rfl, rfl, WkO.rfl⟩, ?_⟩ | refine HeapOK.acc rfl rfl ?_ | refine HeapOK.es rfl rfl ?_)))
      · rw [h5] at hc; omega
theorem EqInts_spec (za zb : Bool) (ca cb : Option Nat) (a b : List Int) (hl : a.length ≤ 100000000000) : CallS Try.prog base 32 [.c (.p (.tz za 1 (inP a) ca)), .c (.p (.tz zb 1 (inP b) cb))] ⟨[], 0⟩ (.c (.p (.bs (decide (a = b))))) ⟨[], 0⟩ := by
  refine CallS.of noNG lEqi.2 rfl (M.start (M.go rfl ?_))
  refine M.condN rfl (fun h1 => ?_) (fun h1 => ?_)
  · refine M.go rfl ?_
    rw [decide_eq_false (p := a = b) (fun h => h1 (by rw [h]))]
    exact M.ret (M.go rfl (M.done (finQ.ret [] rfl rfl rfl (by first | exact Wk.rfl | exact Wk.uncap | exact Wk.nil | exact Wk.b1 rfl | exact Wk.t2 Wk.rfl (Wk.b1 rfl)) (by repeat' (first | exact True.intro | refine ⟨⟨_, _, _, rfl, rfl, rfl, WkO.rfl⟩, ?_⟩ | refine HeapOK.acc rfl rfl ?_ | refine HeapOK.es rfl rfl ?_)))))
  · refine M.go rfl ?_
    have h2 : a.length = b.length := by rw [inP_len, inP_len] at h1; omega
    refine M.loop (XH.ren [] (eqi_loop za zb ca cb a b hl _ a b [] [] rfl rfl rfl h2 (fun h => ?_) (fun h => ?_)) rfl (by repeat' (first | exact True.intro | refine ⟨⟨_, _, rfl, rfl, Wk.rfl⟩, ?_⟩ | refine ⟨⟨_, _, accV_ren rfl, rfl, Wk.rfl⟩, ?_⟩ | refine ⟨⟨_, _, accV_ren rfl, rfl, Wk.acc0⟩, ?_⟩ | refine ⟨⟨_, _, rfl, rfl, Wk.uncap⟩, ?_⟩ | refine ⟨⟨_, _, rfl, rfl, Wk.nil⟩, ?_⟩)) (by repeat' (first | exact True.intro | refine ⟨⟨_, _, _, rfl, rfl, rfl, WkO.rfl⟩, ?_⟩ | refine HeapOK.acc rfl rfl ?_ | refine HeapOK.es rfl rfl ?_)))
    · refine M.q (M.go rfl ?_)
      rw [decide_eq_true h]
      exact M.ret (M.go rfl (M.done (finQ.ret [] rfl rfl rfl (by first | exact Wk.rfl | exact Wk.uncap | exact Wk.nil | exact Wk.b1 rfl | exact Wk.t2 Wk.rfl (Wk.b1 rfl)) (by repeat' (first | exact True.intro | refine ⟨⟨_, _, _, rfl, rfl, rfl, WkO.rfl⟩, ?_⟩ | refine HeapOK.acc rfl rfl ?_ | refine HeapOK.es rfl rfl ?_)))))
    · refine M.q (M.go rfl ?_)
      rw [decide_eq_false h]
      exact M.done (finQ.ret [] rfl rfl rfl (by first | exact Wk.rfl | exact Wk.uncap | exact Wk.nil | exact Wk.b1 rfl | exact Wk.t2 Wk.rfl (Wk.b1 rfl)) (by repeat' (first | exact True.intro | refine ⟨⟨_, _, _, rfl, rfl, rfl, WkO.rfl⟩, ?_⟩ | refine HeapOK.acc rfl rfl ?_ | refine HeapOK.es rfl rfl ?_)))
/-! LogConf. -/
def cfIs (a : Int) : Prop := 1 ≤ a ∧ a ≤ 7
instance (a : Int) : Decidable (cfIs a) := inferInstanceAs (Decidable (1 ≤ a ∧ a ≤ 7))
def cEnt (j : Nat) (a : Int) : Ent := if cfIs a then ⟨j + 1, 1, 3, false, [a.toNat], some 1⟩ else ⟨j + 1, 1, 2, true, [], none⟩
def cEs : Nat → List Int → List Ent
  | _, [] => []
  | j, a :: l => cEnt j a :: cEs (j + 1) l
theorem cEs_app : ∀ (l r : List Int) (j : Nat), cEs j (l ++ r) = cEs j l ++ cEs (j + l.length) r
  | [], r, j => rfl
  | a :: l, r, j => by rw [List.cons_append, cEs, cEs_app l r (j + 1), cEs, List.cons_append, List.length_cons, show j + (l.length + 1) = j + 1 + l.length by omega]
theorem cEs_len : ∀ (l : List Int) (j : Nat), (cEs j l).length = l.length
  | [], _ => rfl
  | a :: l, j => by rw [cEs, List.length_cons, cEs_len l, List.length_cons]
def cLast (c : List Int) (a : Int) : List Int := if cfIs a then [a] else c
def cur (l : List Int) : List Int := l.foldl cLast [1, 2, 3]
def cfs (l : List Int) : List (List Int) := (List.range (l.length + 1)).map fun j => cur (l.take j)
def cPC (c : List Int) : PC := .tz false 1 (inP c) none
def cfP (l : List Int) : List PC := (cfs l).map cPC
theorem cur_app (l : List Int) (a : Int) : cur (l ++ [a]) = cLast (cur l) a := by simp [cur]
theorem cfs_app (l : List Int) (a : Int) : cfs (l ++ [a]) = cfs l ++ [cLast (cur l) a] := by
  unfold cfs
  rw [show (l ++ [a]).length + 1 = l.length + 1 + 1 by simp, List.range_succ, List.map_append]
  congr 1
  · refine List.map_congr_left fun j hj => ?_
    rw [List.mem_range] at hj
    rw [List.take_append_of_le_length (by omega)]
  · simp only [List.map_cons, List.map_nil]
    rw [List.take_of_length_le (by simp), cur_app]
theorem cfP_app (l : List Int) (a : Int) : cfP (l ++ [a]) = cfP l ++ [cPC (cLast (cur l) a)] := by rw [cfP, cfs_app, List.map_append]; rfl
theorem cfP_len (l : List Int) : (cfP l).length = l.length + 1 := by simp [cfP, cfs]
theorem cfP_get (l : List Int) (j : Nat) (h : j ≤ l.length) : (cfP l)[j]? = some (cPC (cur (l.take j))) := by
  rw [cfP, cfs, List.getElem?_map, List.getElem?_map, List.getElem?_range (by omega)]; rfl
theorem memL_one (a : Int) (h : cfIs a) : natI (memL [a.toNat]) = [a] := by
  obtain ⟨h1, h2⟩ := h
  have : memB 0 [a.toNat] = true := by simp [memB]; omega
  rw [memL, if_pos this]
  simp [natI]; omega
theorem cEnt_may (j : Nat) (a t : Int) (ht : t ≤ 1) : entB (j + 1) t (cEnt j a) = true := by
  unfold cEnt
  by_cases h : cfIs a
  · obtain ⟨h1, h2⟩ := h
    have h3 : memB 0 [a.toNat] = true := by simp [memB]; omega
    have h4 : ¬ (1 : Int) < t := by omega
    rw [if_pos ⟨h1, h2⟩]
    simp [entB, memL, h3, h4]
  · have h4 : ¬ (1 : Int) < t := by omega
    rw [if_neg h]
    simp [entB, h4]
theorem cEnt_tm (j : Nat) (a : Int) : (cEnt j a).tm = 1 := by unfold cEnt; split <;> rfl
theorem cEs_may : ∀ (l : List Int) (j : Nat) (t : Int), t ≤ 1 → j + l.length ≤ 1000 → mayF j t (cEs j l) = true
  | [], _, _, _, _ => rfl
  | a :: l, j, t, ht, hj => by
    have h0 := cEs_may l (j + 1) 1 (by omega) (by simp at hj; omega)
    have h1 : ¬ (j : Int) = 9223372036854775807 := by simp at hj; omega
    rw [cEs, mayF, cEnt_may j a t ht, cEnt_tm, decide_eq_false h1]
    simpa using h0
theorem cEs_ok : ∀ (l : List Int) (j : Nat), j + l.length ≤ 1000 → ∀ e ∈ cEs j l, e.ok
  | [], _, _, e, he => by cases he
  | a :: l, j, hj, e, he => by
    simp only [List.length_cons] at hj
    rw [cEs, List.mem_cons] at he
    rcases he with rfl | he
    · unfold cEnt
      split
      · rename_i h
        obtain ⟨h1, h2⟩ := h
        exact ⟨⟨by show _ ≤ (j : Int) + 1; omega, by show (j : Int) + 1 ≤ _; omega⟩, ⟨by simp, by simp⟩, ⟨by simp, by simp⟩, ⟨by simp, by intro b hb; obtain rfl := List.mem_singleton.1 hb; omega⟩⟩
      · exact ⟨⟨by show _ ≤ (j : Int) + 1; omega, by show (j : Int) + 1 ≤ _; omega⟩, ⟨by simp, by simp⟩, ⟨by simp, by simp⟩, ⟨by simp, by simp⟩⟩
    · exact cEs_ok l (j + 1) (by omega) e he
theorem cEs_get : ∀ (l : List Int) (k j : Nat), j < l.length → (cEs k l)[j]? = some (cEnt (k + j) (l.getD j 0))
  | [], _, _, h => by simp at h
  | a :: l, k, 0, _ => by simp [cEs]
  | a :: l, k, j + 1, h => by
    rw [cEs, List.getElem?_cons_succ, cEs_get l (k + 1) j (by simp at h; omega), show k + 1 + j = k + (j + 1) by omega]; rfl
def cS : Snp := ⟨0, 0, false, [1, 2, 3], none, true, [], none⟩
theorem cS_ok : cS.ok := ⟨⟨by simp [cS], by simp [cS]⟩, ⟨by simp [cS], by simp [cS]⟩, ⟨by simp [cS], by
  intro i hi
  simp [cS] at hi
  unfold I64
  omega⟩, ⟨by simp [cS], by simp [cS]⟩⟩
def cLog (l : List Int) : PLog := ⟨cS.own, (cEs 0 l).map Ent.own, true, none⟩
theorem cLog_ok (l : List Int) (h : l.length ≤ 20) : (cLog l).ok := ⟨cS_ok, by simp [cLog, cS, Snp.own], by simp [PLog.last, cLog, cS, Snp.own, cEs_len]; omega, by simp [cLog, cEs_len]; omega, by
  intro e he
  simp only [cLog, List.mem_map] at he
  obtain ⟨e', h1, rfl⟩ := he
  have := cEs_ok l 0 (by omega) e' h1
  exact ⟨this.1, this.2, this.3, this.4⟩⟩
theorem cLog_conf (l : List Int) : ∀ j, j ≤ l.length → ∃ z, (cLog l).confN j = (z, cur (l.take j))
  | 0, _ => ⟨false, rfl⟩
  | j + 1, h => by
    obtain ⟨z, hz⟩ := cLog_conf l j (by omega)
    have hj : j < l.length := by omega
    have hg : (cLog l).E.getD j default = (cEnt j (l.getD j 0)).own := by
      rw [List.getD_eq_getElem?_getD, show (cLog l).E = (cEs 0 l).map Ent.own from rfl, List.getElem?_map, cEs_get l 0 j hj]; simp
    have ht : l.take (j + 1) = l.take j ++ [l.getD j 0] := by
      rw [List.take_add_one, List.getD_eq_getElem?_getD, List.getElem?_eq_getElem hj]; rfl
    rw [PLog.confN, hg, ht, cur_app, hz]
    unfold cEnt cLast
    by_cases hc : cfIs (l.getD j 0)
    · rw [if_pos hc, if_pos hc]
      refine ⟨true, (if_pos rfl).trans ?_⟩
      show (true, natI (memL [(l.getD j 0).toNat])) = _
      rw [memL_one _ hc]
    · rw [if_neg hc, if_neg hc]
      exact ⟨z, if_neg (by simp [Ent.own])⟩
theorem cLog_confAt (l : List Int) (j : Nat) (h : j ≤ l.length) : ∃ z, (cLog l).confAt j = (z, cur (l.take j)) := by
  have h1 : (cLog l).last = l.length := by simp [PLog.last, cLog, cS, Snp.own, cEs_len]
  have h2 : (min (j : Int) (cLog l).last - (cLog l).S.ix).toNat = j := by rw [h1, show (cLog l).S.ix = 0 from rfl]; omega
  rw [PLog.confAt, h2]
  exact cLog_conf l j h
end Go.Proofs.Yteegdhfekemhmaa
