/- Texts of this claim, several in one: SimN, SB1, D1, D2, D3, D4, D5, D6. -/
import Derived.Test.YtjlfojgacnphmaaMgDiskMany11
import Derived.Test.YtjlfojgacnphmaaChecked
import Derived.Test.YtjlfojgacnphmaaRows
namespace Go.Proofs.Ytjlfojgacnphmaa
open Go.RowKit Sim

theorem mixed : Try.prog.follows .mixedOrders = true := by kernel_rfl
theorem noNG (f : FuncId) (fn : Func) (h : Try.prog.funcs[f]? = some fn) : (fn.name == "runtime.NumGoroutine") = false := by
  have h1 : Try.prog.funcs.all (fun fn => !(fn.name == "runtime.NumGoroutine")) = true := by kernel_rfl
  have h2 := Array.all_eq_true'.1 h1 fn (Array.mem_of_getElem? h)
  simpa using h2
end Go.Proofs.Ytjlfojgacnphmaa

namespace Go.Proofs.Ytjlfojgacnphmaa
open Go.RowKit Sim Go Sym
set_option maxRecDepth 100000
set_option linter.unusedVariables false
set_option linter.unusedSimpArgs false
variable {base : Nat}
def u8P (l : List Int) : List PC := l.map fun x => .int .u8 x
theorem u8P_len (l : List Int) : (u8P l).length = l.length := by simp [u8P]
theorem u8P_app (l r : List Int) : u8P (l ++ r) = u8P l ++ u8P r := by simp [u8P]
theorem u8P_at (l : List Int) (j : Nat) (h : j < l.length) : (u8P l)[j]? = some (.int .u8 (l.getD j 0)) := by simp [u8P, h]
theorem u8P_take (l : List Int) (n : Nat) : (u8P l).take n = u8P (l.take n) := by simp [u8P, List.map_take]
theorem u8P_drop (l : List Int) (n : Nat) : (u8P l).drop n = u8P (l.drop n) := by simp [u8P, List.map_drop]
section
variable {P : Program} {n k : Nat} {e : Env} {h : HS} {Q : QX} {K : List Fr}
theorem SOp.shl {nk : NK} {x y : LX} {i j : IntKind} {a b : Int} (hx : xev e x = some (.c (.p (.int i a)))) (hy : xev e y = some (.c (.p (.int j b)))) (h0 : 0 ≤ b) : SOp P n (.bin nk .shl x y) e h (.c (.p (.int i (i.wrap (a * 2 ^ (min b.toNat i.bits)))))) h :=
  SOp.bin hx hy (by simp only [binX]; rw [if_neg (by omega)])
theorem SOp.shr {nk : NK} {x y : LX} {i j : IntKind} {a b : Int} (hx : xev e x = some (.c (.p (.int i a)))) (hy : xev e y = some (.c (.p (.int j b)))) (h0 : 0 ≤ b) : SOp P n (.bin nk .shr x y) e h (.c (.p (.int i (a.fdiv (2 ^ (min b.toNat i.bits)))))) h :=
  SOp.bin hx hy (by simp only [binX]; rw [if_neg (by omega)])
theorem SOp.appAn {s bytes b : Nat} {x y : LX} {v : XC} {ex : List PC} (hx : xev e x = some (.c (.acc b s ex))) (hy : xev e y = some (.c v)) (hel : ElsX h s v []) : SOp P n (.app s bytes x y) e h (.c (.acc b s ex)) h := by
  cases ex with
  | nil => exact step_app hx hy hel (fun _ _ => by simp [XC.sc, XV.sv])
  | cons x0 ex => exact step_app hx hy hel (fun _ _ => by simp [XC.sc, XV.sv])
theorem frameL_acc {g : Nat → Option Nat} {b b' s : Nat} {el : List PC} {r r' : List (Nat × Option XO)} (hg : g b = some b') (hr : frameL g r = some r') : frameL g ((b, accO s el) :: r) = some ((b', accO s el) :: r') := by
  cases el with
  | nil => simp only [accO, frameL, hg, hr]
  | cons x el => simp only [accO, frameL, hg, XO.ren, hr]
end
theorem zz_bits (n : Int) (h0 : -9223372036854775808 ≤ n) (h1 : n < 9223372036854775808) :
    bits .xor .u64 (IntKind.u64.wrap (IntKind.u64.wrap n * 2 ^ (min (1 : Int).toNat IntKind.u64.bits))) (IntKind.u64.wrap (n.fdiv (2 ^ (min (63 : Int).toNat IntKind.i64.bits)))) = (zz n : Int) := by
  have e1 : (2 : Int) ^ (min (1 : Int).toNat IntKind.u64.bits) = 2 := by decide
  have e2 : (2 : Int) ^ (min (63 : Int).toNat IntKind.i64.bits) = 9223372036854775808 := by decide
  rw [e1, e2, Int.fdiv_eq_ediv_of_nonneg _ (by omega)]
  simp only [IntKind.wrap_u64]
  rw [u64_xor _ _ (by omega) (by omega) (by omega) (by omega)]
  by_cases hn : 0 ≤ n
  · have e1 : (n % 18446744073709551616 * 2 % 18446744073709551616).toNat = (2 * n).toNat := by omega
    have e2 : (n / 9223372036854775808 % 18446744073709551616).toNat = 0 := by omega
    rw [e1, e2, Nat.xor_zero, zz, if_pos hn]
  · have e1 : (n % 18446744073709551616 * 2 % 18446744073709551616).toNat = (2 * n + 18446744073709551616).toNat := by omega
    have e2 : (n / 9223372036854775808 % 18446744073709551616).toNat = 2 ^ 64 - 1 := by omega
    rw [e1, e2, xor_ones _ (by omega), zz, if_neg hn]
    omega
theorem or128_bits (m : Nat) : bits .or .u8 (IntKind.u8.wrap (m : Int)) 128 = ((m % 128 + 128 : Nat) : Int) := by
  have e : (IntKind.u8.wrap (m : Int)) = ((m % 256 : Nat) : Int) := by
    have : IntKind.u8.wrap (m : Int) = (m : Int) % 256 := by
      have hs : IntKind.u8.signed = false := rfl
      have hb : IntKind.u8.bits = 8 := rfl
      unfold IntKind.wrap
      simp only [hs, hb, Bool.false_and]
      simp
    rw [this]; omega
  rw [e, show (128 : Int) = ((128 : Nat) : Int) from rfl, u8_or_nat _ _ (by omega) (by omega)]
  congr 1
  apply Nat.eq_of_testBit_eq
  intro i
  rw [Nat.testBit_or]
  have h1 : m % 128 + 128 = 2 ^ 7 * 1 + m % 128 := by omega
  rw [h1, show (256 : Nat) = 2 ^ 8 from rfl, Nat.testBit_mod_two_pow, Nat.testBit_two_pow_mul_add (a := 1) (b := m % 128) (i := 7) (by omega), show (128 : Nat) = 2 ^ 7 from rfl, Nat.testBit_mod_two_pow, Nat.testBit_two_pow]
  by_cases hi : i < 7
  · simp [hi, show i < 8 by omega, show ¬ 7 = i by omega]
  · by_cases h7 : i = 7
    · subst h7; simp
    · have : 0 < i - 7 := by omega
      simp [hi, show ¬ i < 8 by omega, show ¬ 7 = i by omega]
      exact Nat.testBit_lt_two_pow (Nat.lt_of_lt_of_le (show 1 < 2 ^ 1 by omega) (Nat.pow_le_pow_right (by omega) this))
theorem wr_u8 {n : Int} (h : 0 ≤ n) (h' : n < 256) : IntKind.u8.wrap n = n := by
  have hs : IntKind.u8.signed = false := rfl
  have hb : IntKind.u8.bits = 8 := rfl
  unfold IntKind.wrap
  simp only [hs, hb, Bool.false_and]
  simp
  omega
theorem shr7 (m : Nat) : ((m : Int).fdiv (2 ^ (min (7 : Int).toNat IntKind.u64.bits))) = ((m / 128 : Nat) : Int) := by
  have e1 : (2 : Int) ^ (min (7 : Int).toNat IntKind.u64.bits) = 128 := by decide
  rw [e1, Int.fdiv_eq_ediv_of_nonneg _ (by omega)]; omega
def hA (a : Nat) (bs : List Int) : HS := ⟨[(a, accO 1 (u8P bs)), (0, some (.row [.acc a 1 (u8P bs)] true))], a + 1⟩
def hW (a : Nat) (bs : List Int) : HS := ⟨[(a, some (.els 1 (u8P bs))), (0, some (.row [.acc a 1 (u8P bs)] true))], a + 1⟩
def hW0 : HS := ⟨[(0, some (.row [.p (.tz true 1 [] none)] true))], 1⟩
theorem accO_u8 {bs : List Int} (h : bs ≠ []) : accO 1 (u8P bs) = some (.els 1 (u8P bs)) := by
  cases bs with
  | nil => exact absurd rfl h
  | cons x l => rfl
theorem hW_eq {a : Nat} {bs : List Int} (h : bs ≠ []) : hW a bs = hA a bs := by rw [hA, accO_u8 h]; rfl
noncomputable def lWn : {F : LF // lowerF Try.prog 101 = some F} := ⟨_, rfl⟩
theorem wnum_loop (Q : QX) : ∀ (m : Nat) (bs : List Int), (∀ (u : Nat) (bs' : List Int), u ≤ 127 → bs' ++ [(u : Int)] = bs ++ uvar m → Q (.exit 0) [(0, .c (.ptr 0 0)), (4, .c (.p (.int .u64 u)))] (hA 2 bs')) → (uvar m).length + bs.length ≤ 1000000000020 →
    XH Try.prog base lWn.1.n 2 (lWn.1.c.lp 0) [(0, .c (.ptr 0 0)), (4, .c (.p (.int .u64 m)))] (hA 2 bs) Q := by
  intro m
  induction m using Nat.strongRecOn with
  | ind m ih =>
    intro bs hq hu
    refine M.round (M.go rfl ?_)
    refine M.cond rfl (fun hc => ?_) (fun hc => ?_)
    · have hm : 127 < m := by omega
      rw [uvar_big hm] at hq hu
      simp only [List.length_cons] at hu
      have hp := uvar_pos (m / 128)
      refine M.go rfl ?_
      rw [or128_bits]
      refine M.acc trivial rfl rfl rfl (.own rfl rfl) (by simp) (by rw [u8P_len]; simp; omega) ?_
      refine M.go rfl ?_
      refine M.op trivial (SOp.shr rfl rfl (by omega)) ?_
      rw [shr7]
      refine M.go rfl ?_
      have ih' := ih (m / 128) (by omega) (bs ++ [((m % 128 + 128 : Nat) : Int)]) (fun u bs' h1 h2 => hq u bs' h1 (by rw [h2]; simp)) (by simp; omega)
      refine M.again (XH.ren [(0, 0), (1, 1), (2, 4)] ih' rfl (by repeat' (first | exact True.intro | refine ⟨⟨_, _, rfl, rfl, Wk.rfl⟩, ?_⟩ | refine ⟨⟨_, _, accV_ren rfl, rfl, Wk.rfl⟩, ?_⟩ | refine ⟨⟨_, _, accV_ren rfl, rfl, Wk.acc0⟩, ?_⟩ | refine ⟨⟨_, _, rfl, rfl, Wk.uncap⟩, ?_⟩ | refine ⟨⟨_, _, rfl, rfl, Wk.nil⟩, ?_⟩)) ?_)
      unfold hA
      rw [u8P_app]
      exact (by repeat' (first | exact True.intro | refine ⟨⟨_, _, _, rfl, rfl, rfl, WkO.rfl⟩, ?_⟩ | refine HeapOK.acc rfl rfl ?_ | refine HeapOK.es rfl rfl ?_))
    · have hm : m ≤ 127 := by omega
      rw [uvar_small hm] at hq
      refine M.ren [(0, 0), (1, 1), (2, 2)] ?_ trivial rfl (by repeat' (first | exact True.intro | refine ⟨⟨_, _, rfl, rfl, Wk.rfl⟩, ?_⟩ | refine ⟨⟨_, _, accV_ren rfl, rfl, Wk.rfl⟩, ?_⟩ | refine ⟨⟨_, _, accV_ren rfl, rfl, Wk.acc0⟩, ?_⟩ | refine ⟨⟨_, _, rfl, rfl, Wk.uncap⟩, ?_⟩ | refine ⟨⟨_, _, rfl, rfl, Wk.nil⟩, ?_⟩)) (by repeat' (first | exact True.intro | refine ⟨⟨_, _, _, rfl, rfl, rfl, WkO.rfl⟩, ?_⟩ | refine HeapOK.acc rfl rfl ?_ | refine HeapOK.es rfl rfl ?_)) (e' := [(0, .c (.ptr 0 0)), (4, .c (.p (.int .u64 m)))]) (h' := hA 2 bs)
      exact M.exit (M.go rfl (M.done (hq m bs hm rfl)))
theorem wnum_loop0 (Q : QX) : ∀ (m : Nat) (bs : List Int), (∀ (u : Nat) (bs' : List Int), u ≤ 127 → bs' ++ [(u : Int)] = bs ++ uvar m → Q (.exit 0) [(0, .c (.ptr 0 0)), (4, .c (.p (.int .u64 u)))] (hA 2 bs')) → (uvar m).length + bs.length ≤ 1000000000020 →
    XH Try.prog base lWn.1.n 1 (lWn.1.c.lp 0) [(0, .c (.ptr 0 0)), (4, .c (.p (.int .u64 m)))] (hA 2 bs) Q := by
  intro m
  induction m using Nat.strongRecOn with
  | ind m ih =>
    intro bs hq hu
    refine M.round (M.go rfl ?_)
    refine M.cond rfl (fun hc => ?_) (fun hc => ?_)
    · have hm : 127 < m := by omega
      rw [uvar_big hm] at hq hu
      simp only [List.length_cons] at hu
      have hp := uvar_pos (m / 128)
      refine M.go rfl ?_
      rw [or128_bits]
      refine M.acc trivial rfl rfl rfl (.own rfl rfl) (by simp) (by rw [u8P_len]; simp; omega) ?_
      refine M.go rfl ?_
      refine M.op trivial (SOp.shr rfl rfl (by omega)) ?_
      rw [shr7]
      refine M.go rfl ?_
      have ih' := ih (m / 128) (by omega) (bs ++ [((m % 128 + 128 : Nat) : Int)]) (fun u bs' h1 h2 => hq u bs' h1 (by rw [h2]; simp)) (by simp; omega)
      refine M.again (XH.ren [(0, 0), (1, 1), (2, 4)] ih' rfl (by repeat' (first | exact True.intro | refine ⟨⟨_, _, rfl, rfl, Wk.rfl⟩, ?_⟩ | refine ⟨⟨_, _, accV_ren rfl, rfl, Wk.rfl⟩, ?_⟩ | refine ⟨⟨_, _, accV_ren rfl, rfl, Wk.acc0⟩, ?_⟩ | refine ⟨⟨_, _, rfl, rfl, Wk.uncap⟩, ?_⟩ | refine ⟨⟨_, _, rfl, rfl, Wk.nil⟩, ?_⟩)) ?_)
      unfold hA
      rw [u8P_app]
      exact (by repeat' (first | exact True.intro | refine ⟨⟨_, _, _, rfl, rfl, rfl, WkO.rfl⟩, ?_⟩ | refine HeapOK.acc rfl rfl ?_ | refine HeapOK.es rfl rfl ?_))
    · have hm : m ≤ 127 := by omega
      rw [uvar_small hm] at hq
      refine M.ren [(0, 0), (1, 1), (2, 2)] ?_ trivial rfl (by repeat' (first | exact True.intro | refine ⟨⟨_, _, rfl, rfl, Wk.rfl⟩, ?_⟩ | refine ⟨⟨_, _, accV_ren rfl, rfl, Wk.rfl⟩, ?_⟩ | refine ⟨⟨_, _, accV_ren rfl, rfl, Wk.acc0⟩, ?_⟩ | refine ⟨⟨_, _, rfl, rfl, Wk.uncap⟩, ?_⟩ | refine ⟨⟨_, _, rfl, rfl, Wk.nil⟩, ?_⟩)) (by repeat' (first | exact True.intro | refine ⟨⟨_, _, _, rfl, rfl, rfl, WkO.rfl⟩, ?_⟩ | refine HeapOK.acc rfl rfl ?_ | refine HeapOK.es rfl rfl ?_)) (e' := [(0, .c (.ptr 0 0)), (4, .c (.p (.int .u64 m)))]) (h' := hA 2 bs)
      exact M.exit (M.go rfl (M.done (hq m bs hm rfl)))
theorem wnum_spec (bs : List Int) (n : Int) (hb : bs.length ≤ 1000000000000) (hn : InI64 n) : CallS Try.prog base 101 [.c (.ptr 0 0), .c (.p (.int .i64 n))] (hA 1 bs) (.tup []) (hA 2 (bs ++ numB n)) := by
  have hlen := numB_len hn.1 hn.2
  have hnB : numB n = uvar (zz n) := rfl
  refine CallS.of noNG lWn.2 rfl (M.start (M.go rfl ?_))
  refine M.op trivial (SOp.shl rfl rfl (by omega)) ?_
  refine M.go rfl ?_
  refine M.op trivial (SOp.shr rfl rfl (by omega)) ?_
  refine M.go rfl ?_
  rw [zz_bits n hn.1 hn.2]
  obtain ⟨m, hm⟩ : ∃ m, m = zz n := ⟨_, rfl⟩
  rw [hnB, ← hm] at hlen ⊢
  refine M.loop (M.round (M.go rfl ?_))
  refine M.cond rfl (fun hc => ?_) (fun hc => ?_)
  · have hm : 127 < m := by omega
    rw [uvar_big hm] at hlen ⊢
    simp only [List.length_cons] at hlen
    refine M.go rfl ?_
    rw [or128_bits]
    refine M.acc trivial rfl rfl rfl (.own rfl rfl) (by simp) (by rw [u8P_len]; simp; omega) ?_
    refine M.go rfl ?_
    refine M.op trivial (SOp.shr rfl rfl (by omega)) ?_
    rw [shr7]
    refine M.go rfl ?_
    refine M.again (XH.ren [(0, 0), (1, 1), (2, 3)] (wnum_loop _ (m / 128) (bs ++ [((m % 128 + 128 : Nat) : Int)]) (fun u bs' h1 h2 => ?_) (by simp; omega)) rfl (by repeat' (first | exact True.intro | refine ⟨⟨_, _, rfl, rfl, Wk.rfl⟩, ?_⟩ | refine ⟨⟨_, _, accV_ren rfl, rfl, Wk.rfl⟩, ?_⟩ | refine ⟨⟨_, _, accV_ren rfl, rfl, Wk.acc0⟩, ?_⟩ | refine ⟨⟨_, _, rfl, rfl, Wk.uncap⟩, ?_⟩ | refine ⟨⟨_, _, rfl, rfl, Wk.nil⟩, ?_⟩)) ?_)
    · have hl2 := congrArg List.length h2
      simp at hl2
      refine M.q (M.go rfl (M.done (M.q (M.go rfl ?_))))
      rw [wr_u8 (by omega) (by omega)]
      refine M.acc trivial rfl rfl rfl (.own rfl rfl) (by simp) (by rw [u8P_len]; simp; omega) ?_
      refine M.go rfl ?_
      refine M.done (finQ.normal [(0, 0), (1, 1), (2, 4)] rfl rfl rfl Wk.rfl ?_)
      have e1 : bs ++ ((m % 128 + 128 : Nat) : Int) :: uvar (m / 128) = bs' ++ [(u : Int)] := by rw [h2]; simp
      rw [e1]
      unfold hA
      rw [u8P_app]
      exact (by repeat' (first | exact True.intro | refine ⟨⟨_, _, _, rfl, rfl, rfl, WkO.rfl⟩, ?_⟩ | refine HeapOK.acc rfl rfl ?_ | refine HeapOK.es rfl rfl ?_))
    · unfold hA
      rw [u8P_app]
      exact (by repeat' (first | exact True.intro | refine ⟨⟨_, _, _, rfl, rfl, rfl, WkO.rfl⟩, ?_⟩ | refine HeapOK.acc rfl rfl ?_ | refine HeapOK.es rfl rfl ?_))
  · have hm : m ≤ 127 := by omega
    rw [uvar_small hm]
    refine M.exit (M.go rfl (M.done (M.q (M.go rfl ?_))))
    rw [wr_u8 (by omega) (by omega)]
    refine M.acc trivial rfl rfl rfl (.own rfl rfl) (by simp) (by rw [u8P_len]; simp; omega) ?_
    refine M.go rfl ?_
    refine M.done (finQ.normal [(0, 0), (1, 1), (2, 3)] rfl rfl rfl Wk.rfl ?_)
    unfold hA
    rw [u8P_app]
    exact (by repeat' (first | exact True.intro | refine ⟨⟨_, _, _, rfl, rfl, rfl, WkO.rfl⟩, ?_⟩ | refine HeapOK.acc rfl rfl ?_ | refine HeapOK.es rfl rfl ?_))
theorem wnum0_spec (n : Int) (hn : InI64 n) : CallS Try.prog base 101 [.c (.ptr 0 0), .c (.p (.int .i64 n))] hW0 (.tup []) (hW 1 (numB n)) := by
  have hlen := numB_len hn.1 hn.2
  have hnB : numB n = uvar (zz n) := rfl
  rw [hW_eq (by intro e; have := numB_pos n; rw [e] at this; simp at this)]
  obtain ⟨bs, hbs⟩ : ∃ bs : List Int, bs = [] := ⟨_, rfl⟩
  have hb : bs.length ≤ 1000000000000 := by rw [hbs]; simp
  rw [show numB n = bs ++ numB n by rw [hbs]; rfl]
  refine CallS.of noNG lWn.2 rfl (M.start ?_)
  refine M.wkH (b0 := 0) (o' := .row [.acc 1 1 (u8P bs)] true) rfl rfl (WkO.row ⟨by rw [hbs]; exact Wk.acc0, trivial⟩) ?_
  refine M.forgetNC (h' := hA 1 bs) (fun b o hb2 => ?_) (Nat.le_succ _) ?_
  · rw [hbs] at hb2 ⊢
    simp only [hA, HS.get, look_cons, u8P, accO, List.map_nil, HS.put, hW0, Sym.look] at hb2 ⊢
    cases h1 : Nat.beq 1 b <;> cases h2 : Nat.beq 0 b <;> simp_all
  refine M.go rfl ?_
  refine M.op trivial (SOp.shl rfl rfl (by omega)) ?_
  refine M.go rfl ?_
  refine M.op trivial (SOp.shr rfl rfl (by omega)) ?_
  refine M.go rfl ?_
  rw [zz_bits n hn.1 hn.2]
  obtain ⟨m, hm⟩ : ∃ m, m = zz n := ⟨_, rfl⟩
  rw [hnB, ← hm] at hlen ⊢
  refine M.loop (M.round (M.go rfl ?_))
  refine M.cond rfl (fun hc => ?_) (fun hc => ?_)
  · have hm : 127 < m := by omega
    rw [uvar_big hm] at hlen ⊢
    simp only [List.length_cons] at hlen
    refine M.go rfl ?_
    rw [or128_bits]
    refine M.acc trivial rfl rfl rfl (.own rfl rfl) (by simp) (by rw [u8P_len]; simp; omega) ?_
    refine M.go rfl ?_
    refine M.op trivial (SOp.shr rfl rfl (by omega)) ?_
    rw [shr7]
    refine M.go rfl ?_
    refine M.again (XH.ren [(0, 0), (1, 1), (2, 3)] (wnum_loop0 _ (m / 128) (bs ++ [((m % 128 + 128 : Nat) : Int)]) (fun u bs' h1 h2 => ?_) (by simp; omega)) rfl (by repeat' (first | exact True.intro | refine ⟨⟨_, _, rfl, rfl, Wk.rfl⟩, ?_⟩ | refine ⟨⟨_, _, accV_ren rfl, rfl, Wk.rfl⟩, ?_⟩ | refine ⟨⟨_, _, accV_ren rfl, rfl, Wk.acc0⟩, ?_⟩ | refine ⟨⟨_, _, rfl, rfl, Wk.uncap⟩, ?_⟩ | refine ⟨⟨_, _, rfl, rfl, Wk.nil⟩, ?_⟩)) ?_)
    · have hl2 := congrArg List.length h2
      simp at hl2
      refine M.q (M.go rfl (M.done (M.q (M.go rfl ?_))))
      rw [wr_u8 (by omega) (by omega)]
      refine M.acc trivial rfl rfl rfl (.own rfl rfl) (by simp) (by rw [u8P_len]; simp; omega) ?_
      refine M.go rfl ?_
      refine M.done (finQ.normal [(0, 0), (1, 4)] rfl rfl rfl Wk.rfl ?_)
      have e1 : bs ++ ((m % 128 + 128 : Nat) : Int) :: uvar (m / 128) = bs' ++ [(u : Int)] := by rw [h2]; simp
      rw [e1]
      unfold hA
      rw [u8P_app]
      exact (by repeat' (first | exact True.intro | refine ⟨⟨_, _, _, rfl, rfl, rfl, WkO.rfl⟩, ?_⟩ | refine HeapOK.acc rfl rfl ?_ | refine HeapOK.es rfl rfl ?_))
    · unfold hA
      rw [u8P_app]
      exact (by repeat' (first | exact True.intro | refine ⟨⟨_, _, _, rfl, rfl, rfl, WkO.rfl⟩, ?_⟩ | refine HeapOK.acc rfl rfl ?_ | refine HeapOK.es rfl rfl ?_))
  · have hm : m ≤ 127 := by omega
    rw [uvar_small hm]
    refine M.exit (M.go rfl (M.done (M.q (M.go rfl ?_))))
    rw [wr_u8 (by omega) (by omega)]
    refine M.acc trivial rfl rfl rfl (.own rfl rfl) (by simp) (by rw [u8P_len]; simp; omega) ?_
    refine M.go rfl ?_
    refine M.done (finQ.normal [(0, 0), (1, 3)] rfl rfl rfl Wk.rfl ?_)
    unfold hA
    rw [u8P_app]
    exact (by repeat' (first | exact True.intro | refine ⟨⟨_, _, _, rfl, rfl, rfl, WkO.rfl⟩, ?_⟩ | refine HeapOK.acc rfl rfl ?_ | refine HeapOK.es rfl rfl ?_))
theorem wnum_spec' (bs : List Int) (n : Int) (hne : bs ≠ []) (hb : bs.length ≤ 1000000000000) (hn : InI64 n) : CallS Try.prog base 101 [.c (.ptr 0 0), .c (.p (.int .i64 n))] (hW 1 bs) (.tup []) (hW 2 (bs ++ numB n)) := by
  rw [hW_eq hne, hW_eq (by simp [hne])]
  exact wnum_spec bs n hb hn
noncomputable def lWt : {F : LF // lowerF Try.prog 125 = some F} := ⟨_, rfl⟩
theorem wtext_spec (bs : List Int) (z : Bool) (c : Option Nat) (t : List Int) (hne : bs ≠ []) (hb : bs.length ≤ 1000000000000) (ht : t.length ≤ 1000000000000) : CallS Try.prog base 125 [.c (.ptr 0 0), .c (.p (.tz z 1 (u8P t) c))] (hW 1 bs) (.tup []) (hW 2 (bs ++ textB t)) := by
  refine CallS.of noNG lWt.2 rfl (M.start (M.go rfl ?_))
  rw [u8P_len]
  have hlen : (numB (t.length : Int)).length ≤ 10 := numB_len (by omega) (by omega)
  refine M.use trivial (wnum_spec' bs t.length hne hb ⟨by omega, by omega⟩) [(0, 0), (1, 1)] rfl rfl rfl (by repeat' (first | exact True.intro | refine ⟨⟨_, _, _, rfl, rfl, rfl, WkO.rfl⟩, ?_⟩ | refine HeapOK.acc rfl rfl ?_ | refine HeapOK.es rfl rfl ?_)) rfl rfl ?_
  refine M.go rfl ?_
  obtain ⟨cs, hcs⟩ : ∃ cs, cs = bs ++ numB (t.length : Int) := ⟨_, rfl⟩
  have hcn : cs ≠ [] := by rw [hcs]; simp [hne]
  have hcl : cs.length ≤ 1000000000010 := by rw [hcs]; simp; omega
  rw [show bs ++ textB t = cs ++ t by rw [hcs]; simp [textB]]
  rw [← hcs, hW_eq (bs := cs ++ t) (by simp [hcn])]
  cases t with
  | nil =>
    refine M.op trivial (SOp.appAn rfl rfl .tz) ?_
    refine M.go rfl ?_
    refine M.done (finQ.normal [(0, 0), (1, 1), (2, 2)] rfl rfl rfl Wk.rfl ?_)
    unfold hA
    rw [List.append_nil, accO_u8 hcn]
    exact (by repeat' (first | exact True.intro | refine ⟨⟨_, _, _, rfl, rfl, rfl, WkO.rfl⟩, ?_⟩ | refine HeapOK.acc rfl rfl ?_ | refine HeapOK.es rfl rfl ?_))
  | cons x t =>
    refine M.acc trivial rfl (by rw [accO_u8 hcn]; rfl) rfl .tz (by simp [u8P]) (by rw [u8P_len, u8P_len]; simp at ht ⊢; omega) ?_
    refine M.go rfl ?_
    refine M.done (finQ.normal [(0, 0), (1, 1), (2, 3)] rfl rfl rfl Wk.rfl ?_)
    unfold hA
    rw [u8P_app]
    exact (by repeat' (first | exact True.intro | refine ⟨⟨_, _, _, rfl, rfl, rfl, WkO.rfl⟩, ?_⟩ | refine HeapOK.acc rfl rfl ?_ | refine HeapOK.es rfl rfl ?_))
noncomputable def lWf : {F : LF // lowerF Try.prog 114 = some F} := ⟨_, rfl⟩
theorem wflag_spec (bs : List Int) (f : Bool) (hne : bs ≠ []) (hb : bs.length ≤ 1000000000000) : CallS Try.prog base 114 [.c (.ptr 0 0), .c (.p (.bs f))] (hW 1 bs) (.tup []) (hW 2 (bs ++ flagB f)) := by
  rw [hW_eq hne, hW_eq (by simp [hne])]
  refine CallS.of noNG lWf.2 rfl (M.start (M.go rfl ?_))
  refine M.condB rfl (fun h => ?_) (fun h => ?_)
  all_goals
    subst h
    refine M.go rfl ?_
    refine M.acc trivial rfl rfl rfl (.own rfl rfl) (by simp) (by rw [u8P_len]; simp; omega) ?_
    refine M.go rfl ?_
    refine M.done (finQ.normal [(0, 0), (1, 1), (2, 3)] rfl rfl rfl Wk.rfl ?_)
    unfold hA
    rw [u8P_app]
    exact (by repeat' (first | exact True.intro | refine ⟨⟨_, _, _, rfl, rfl, rfl, WkO.rfl⟩, ?_⟩ | refine HeapOK.acc rfl rfl ?_ | refine HeapOK.es rfl rfl ?_))
noncomputable def lBc1 : {F : LF // lowerF Try.prog 67 = some F} := ⟨_, rfl⟩
theorem bcl_spec (z : Bool) (el : List PC) (c : Option Nat) (hl : el.length ≤ 1000000000000) : CallS Try.prog base 67 [.c (.p (.tz z 1 el c))] ⟨[], 0⟩ (.c (.p (.tz z 1 el none))) ⟨[], 0⟩ := by
  refine CallS.of noNG lBc1.2 rfl (M.start (M.go rfl ?_))
  refine M.condB rfl (fun hc => ?_) (fun hc => ?_)
  · refine M.go rfl ?_
    obtain ⟨rfl, rfl⟩ : z = true ∧ el = [] := by simpa using hc
    refine M.ren [] ?_ trivial rfl (by repeat' (first | exact True.intro | refine ⟨⟨_, _, rfl, rfl, Wk.rfl⟩, ?_⟩ | refine ⟨⟨_, _, accV_ren rfl, rfl, Wk.rfl⟩, ?_⟩ | refine ⟨⟨_, _, accV_ren rfl, rfl, Wk.acc0⟩, ?_⟩ | refine ⟨⟨_, _, rfl, rfl, Wk.uncap⟩, ?_⟩ | refine ⟨⟨_, _, rfl, rfl, Wk.nil⟩, ?_⟩)) (by repeat' (first | exact True.intro | refine ⟨⟨_, _, _, rfl, rfl, rfl, WkO.rfl⟩, ?_⟩ | refine HeapOK.acc rfl rfl ?_ | refine HeapOK.es rfl rfl ?_)) (e' := [(2, .c (.p (.tz true 1 [] none)))]) (h' := ⟨[], 0⟩)
    exact M.ret (M.go rfl (M.done (finQ.ret [] rfl rfl rfl (by first | exact Wk.rfl | exact Wk.uncap | exact Wk.nil | exact Wk.b1 rfl | exact Wk.t2 Wk.rfl (Wk.b1 rfl)) (by repeat' (first | exact True.intro | refine ⟨⟨_, _, _, rfl, rfl, rfl, WkO.rfl⟩, ?_⟩ | refine HeapOK.acc rfl rfl ?_ | refine HeapOK.es rfl rfl ?_)))))
  · refine M.go rfl ?_
    by_cases h0 : el = []
    · subst h0
      obtain rfl : z = false := by simpa using hc
      refine M.op trivial (SOp.app0 rfl rfl .tz (.inl ⟨_, _, _, _, _, rfl⟩)) ?_
      refine M.go rfl ?_
      refine M.freezeN (i := 2) rfl rfl rfl ?_
      refine M.ren [] ?_ trivial rfl (by repeat' (first | exact True.intro | refine ⟨⟨_, _, rfl, rfl, Wk.rfl⟩, ?_⟩ | refine ⟨⟨_, _, accV_ren rfl, rfl, Wk.rfl⟩, ?_⟩ | refine ⟨⟨_, _, accV_ren rfl, rfl, Wk.acc0⟩, ?_⟩ | refine ⟨⟨_, _, rfl, rfl, Wk.uncap⟩, ?_⟩ | refine ⟨⟨_, _, rfl, rfl, Wk.nil⟩, ?_⟩)) (by repeat' (first | exact True.intro | refine ⟨⟨_, _, _, rfl, rfl, rfl, WkO.rfl⟩, ?_⟩ | refine HeapOK.acc rfl rfl ?_ | refine HeapOK.es rfl rfl ?_)) (e' := [(2, .c (.p (.tz false 1 [] none)))]) (h' := ⟨[], 0⟩)
      exact M.ret (M.go rfl (M.done (finQ.ret [] rfl rfl rfl (by first | exact Wk.rfl | exact Wk.uncap | exact Wk.nil | exact Wk.b1 rfl | exact Wk.t2 Wk.rfl (Wk.b1 rfl)) (by repeat' (first | exact True.intro | refine ⟨⟨_, _, _, rfl, rfl, rfl, WkO.rfl⟩, ?_⟩ | refine HeapOK.acc rfl rfl ?_ | refine HeapOK.es rfl rfl ?_)))))
    · refine M.op trivial (SOp.appF (ex := []) rfl rfl rfl (by have := List.length_pos_iff.2 h0; simp; omega) rfl .tz h0 (by simp; omega)) ?_
      refine M.go rfl ?_
      refine M.freezeN (i := 2) rfl rfl (by simp) ?_
      refine M.ren [] ?_ trivial rfl ⟨⟨_, _, rfl, rfl, Wk.some h0⟩, trivial⟩ (by repeat' (first | exact True.intro | refine ⟨⟨_, _, _, rfl, rfl, rfl, WkO.rfl⟩, ?_⟩ | refine HeapOK.acc rfl rfl ?_ | refine HeapOK.es rfl rfl ?_)) (e' := [(2, .c (.p (.tz z 1 el none)))]) (h' := ⟨[], 0⟩)
      exact M.ret (M.go rfl (M.done (finQ.ret [] rfl rfl rfl (by first | exact Wk.rfl | exact Wk.uncap | exact Wk.nil | exact Wk.b1 rfl | exact Wk.t2 Wk.rfl (Wk.b1 rfl)) (by repeat' (first | exact True.intro | refine ⟨⟨_, _, _, rfl, rfl, rfl, WkO.rfl⟩, ?_⟩ | refine HeapOK.acc rfl rfl ?_ | refine HeapOK.es rfl rfl ?_)))))
noncomputable def lWb : {F : LF // lowerF Try.prog 102 = some F} := ⟨_, rfl⟩
theorem wbytes_spec (bs : List Int) (hne : bs ≠ []) (hb : bs.length ≤ 1000000000000) : CallS Try.prog base 102 [.c (.ptr 0 0)] (hW 1 bs) (.c (.p (.tz true 1 (u8P bs) none))) ⟨[], 2⟩ := by
  rw [hW_eq hne]
  refine CallS.of noNG lWb.2 rfl (M.start ?_)
  refine M.accFR (b0 := 0) (o := 0) (b := 1) rfl rfl rfl rfl rfl ?_
  refine M.go rfl ?_
  refine M.use0 trivial (bcl_spec true (u8P bs) none (by rw [u8P_len]; exact hb)) rfl rfl rfl ?_
  refine M.go rfl ?_
  exact M.ret (M.go rfl (M.done (finQ.ret [(0, 0), (1, 1)] rfl rfl rfl Wk.rfl trivial)))
end Go.Proofs.Ytjlfojgacnphmaa

namespace Go.Proofs.Ytjlfojgacnphmaa
open Go.RowKit Sim Go Sym
set_option maxRecDepth 100000
set_option linter.unusedVariables false
set_option linter.unusedSimpArgs false
variable {base : Nat}
abbrev FS := List (Nat × List Nat × PC)
def fP (z : Bool) (bs : List Int) (c : Option Nat) : PC := .tz z 1 (u8P bs) c
def fM (F : FS) (c : Nat) : XO := .pm (pK KD.str F) c
noncomputable def lClip : {F : LF // lowerF Try.prog 104 = some F} := ⟨_, rfl⟩
theorem clip_spec (z : Bool) (bs : List Int) (c : Option Nat) : CallS Try.prog base 104 [.c (.p (.tz z 1 (u8P bs) c))] ⟨[], 0⟩ (.c (.p (fP (z && (u8P bs).isEmpty) bs (some bs.length)))) ⟨[], 0⟩ := by
  have hlen : (u8P bs).length = bs.length := u8P_len bs
  refine CallS.of noNG lClip.2 rfl (M.start (M.go rfl ?_))
  refine M.op trivial (SOp.slM (l := 0) (r := bs.length) (m := bs.length) rfl rfl ⟨_, _, rfl, by omega, by omega⟩ ⟨_, _, rfl, by omega, by rw [hlen]; rfl⟩ (by omega) (by omega) (by omega)) ?_
  rw [List.drop_zero, Nat.sub_zero, List.take_of_length_le (by omega)]
  refine M.go rfl ?_
  exact M.ret (M.go rfl (M.done (finQ.ret [] rfl rfl rfl (by first | exact Wk.rfl | exact Wk.uncap | exact Wk.nil | exact Wk.b1 rfl | exact Wk.t2 Wk.rfl (Wk.b1 rfl)) (by repeat' (first | exact True.intro | refine ⟨⟨_, _, _, rfl, rfl, rfl, WkO.rfl⟩, ?_⟩ | refine HeapOK.acc rfl rfl ?_ | refine HeapOK.es rfl rfl ?_)))))
theorem clip0_spec : CallS Try.prog base 104 [.c (.p (.tz true 0 [] none))] ⟨[], 0⟩ (.c (.p (fP true [] (some 0)))) ⟨[], 0⟩ := by
  refine CallS.of noNG lClip.2 rfl (M.start (M.go rfl ?_))
  refine M.wkO (i := 3) (v' := .c (.p (.tz true 1 [] none))) rfl Wk.nil ?_
  refine M.op trivial (SOp.slM (l := 0) (r := 0) (m := 0) rfl rfl ⟨_, _, rfl, by decide, rfl⟩ ⟨_, _, rfl, by decide, rfl⟩ (by omega) (by omega) (Nat.le_refl _)) ?_
  refine M.go rfl ?_
  exact M.ret (M.go rfl (M.done (finQ.ret [] rfl rfl rfl (by first | exact Wk.rfl | exact Wk.uncap | exact Wk.nil | exact Wk.b1 rfl | exact Wk.t2 Wk.rfl (Wk.b1 rfl)) (by repeat' (first | exact True.intro | refine ⟨⟨_, _, _, rfl, rfl, rfl, WkO.rfl⟩, ?_⟩ | refine HeapOK.acc rfl rfl ?_ | refine HeapOK.es rfl rfl ?_)))))
noncomputable def lDo : {F : LF // lowerF Try.prog 66 = some F} := ⟨_, rfl⟩
def chX (kd : Int) (name to : List Nat) (b : PC) (n : Int) : List PC := [.int .i64 kd, .str name, .str to, b, .int .i64 n]
def apF (z : Bool) (old new : List Int) : PC := if new = [] then fP z old (some old.length) else fP false (old ++ new) none
theorem do_app (F : FS) (c : Nat) (name to : List Nat) (n : Int) (z : Bool) (old : List Int) (oc : Option Nat) (hold : findP name F = some (fP z old oc)) (zb : Bool) (b : List Int) (cb : Option Nat) (k : Nat) (hk : k ≤ b.length) (ho : old.length ≤ 100000000) (hb : b.length ≤ 100000000) :
    CallS Try.prog base 66 [.c (.mp 0), .agg ((chX 0 name to (fP zb b cb) n).map XC.p), .c (.p (.int .i64 k))] ⟨[(0, some (fM F c))], 1⟩ (.tup []) ⟨[(0, some (fM (updP name (apF (z && (u8P old).isEmpty) old (b.take k)) c F) (updPC name (apF (z && (u8P old).isEmpty) old (b.take k)) c F)))], 1⟩ := by
  have hl1 : (u8P old).length = old.length := u8P_len old
  have hl2 : (u8P b).length = b.length := u8P_len b
  refine CallS.of noNG lDo.2 rfl (M.start ?_)
  refine M.wkH (b0 := 0) rfl rfl (WkO.pmap KD.str) (M.go rfl ?_)
  refine M.cond rfl (fun _ => ?_) (fun hn => absurd (by decide) hn)
  refine M.midV [] ⟨[(0, some (fM (updP name (apF (z && (u8P old).isEmpty) old (b.take k)) c F) (updPC name (apF (z && (u8P old).isEmpty) old (b.take k)) c F)))], 1⟩ ?_ (M.go rfl (M.done (finQ.normal [(0, 0)] rfl rfl rfl Wk.rfl (by repeat' (first | exact True.intro | refine ⟨⟨_, _, _, rfl, rfl, rfl, WkO.rfl⟩, ?_⟩ | refine HeapOK.acc rfl rfl ?_ | refine HeapOK.es rfl rfl ?_)))))
  refine M.go rfl ?_
  refine M.regF (MF.go rfl ?_)
  refine MF.op trivial (SOp.look (a := name) KD.str rfl rfl rfl) ?_
  rw [show (findK name (pv F)).getD (XV.c (.p (.tz true 0 [] none))) = .c (.p (fP z old oc)) by rw [findK_pv, hold]; rfl]
  refine MF.go rfl ?_
  refine MF.use0 trivial (clip_spec z old oc) rfl rfl rfl ?_
  refine MF.go rfl ?_
  refine MF.op trivial (SOp.sl (l := 0) (r := k) rfl rfl ⟨_, _, rfl, by omega, by omega⟩ (by omega) (by omega)) ?_
  rw [List.drop_zero, Nat.sub_zero, u8P_take]
  obtain ⟨new, hnew⟩ : ∃ new, new = b.take k := ⟨_, rfl⟩
  rw [← hnew]
  have hnl : new.length ≤ b.length := by rw [hnew]; simp; omega
  obtain ⟨z1, hz1⟩ : ∃ z1, z1 = (z && (u8P old).isEmpty) := ⟨_, rfl⟩
  rw [← hz1]
  refine MF.go rfl ?_
  by_cases h0 : new = []
  · rw [apF, if_pos h0]
    refine MF.op trivial (SOp.app0 rfl rfl (by rw [h0]; exact .tz) (.inr ⟨_, _, _, _, rfl⟩)) ?_
    refine MF.go rfl ?_
    refine MF.op trivial (SOp.upd (a := name) KD.str rfl rfl rfl rfl rfl) ?_
    rw [updK_pv, updC_pv]
    refine MF.go rfl ?_
    refine MF.nil mixed (Fnl.nodup rfl) rfl (by refine ⟨⟨stepX_ok rfl, stepX_ok rfl, trivial⟩, ⟨stepX_ok rfl, trivial⟩, ⟨?_, trivial⟩, trivial⟩; exact SOp.sv (SOp.sl (z := zb) (el := u8P b) (c := cb) (l := 0) (r := k) rfl rfl ⟨_, _, rfl, by omega, by omega⟩ (by omega) (by omega)) (by rw [List.drop_zero, Nat.sub_zero, u8P_take, ← hnew])) (M.go rfl ?_)
    exact M.done ⟨rfl, Sh.ren [(0, 0)] rfl (by repeat' (first | exact True.intro | refine ⟨⟨_, _, rfl, rfl, Wk.rfl⟩, ?_⟩ | refine ⟨⟨_, _, accV_ren rfl, rfl, Wk.rfl⟩, ?_⟩ | refine ⟨⟨_, _, accV_ren rfl, rfl, Wk.acc0⟩, ?_⟩ | refine ⟨⟨_, _, rfl, rfl, Wk.uncap⟩, ?_⟩ | refine ⟨⟨_, _, rfl, rfl, Wk.nil⟩, ?_⟩)) ⟨⟨_, _, _, rfl, rfl, rfl, WkO.mapp KD.str⟩, trivial⟩⟩
  · rw [apF, if_neg h0]
    have h1 : u8P new ≠ [] := by simpa [u8P] using h0
    have h2 : 0 < new.length := List.length_pos_iff.2 h0
    refine MF.op trivial (SOp.appC rfl rfl .tz h1 (by rw [hl1, u8P_len]; omega) (by rw [hl1, u8P_len]; omega)) ?_
    rw [← u8P_app]
    refine MF.go rfl ?_
    refine MF.op trivial (SOp.upd (a := name) KD.str rfl rfl rfl rfl rfl) ?_
    refine MF.go rfl ?_
    refine MF.nil mixed (Fnl.nodup rfl) rfl (by refine ⟨⟨stepX_ok rfl, stepX_ok rfl, trivial⟩, ⟨stepX_ok rfl, trivial⟩, ⟨?_, trivial⟩, trivial⟩; exact SOp.sv (SOp.sl (z := zb) (el := u8P b) (c := cb) (l := 0) (r := k) rfl rfl ⟨_, _, rfl, by omega, by omega⟩ (by omega) (by omega)) (by rw [List.drop_zero, Nat.sub_zero, u8P_take, ← hnew])) (M.go rfl (M.done ⟨rfl, ?_⟩))
    exact Sh.freezeU KD.str (b0 := 0) (b := 2) (s := 1) (c := none) (ES := F) (ky := name) (c0 := c) (el := u8P (old ++ new)) (m := (u8P old).length + (u8P new).length) rfl rfl rfl (by rw [u8P_app, List.length_append]) (Sh.ren [(0, 0)] rfl (by repeat' (first | exact True.intro | refine ⟨⟨_, _, rfl, rfl, Wk.rfl⟩, ?_⟩ | refine ⟨⟨_, _, accV_ren rfl, rfl, Wk.rfl⟩, ?_⟩ | refine ⟨⟨_, _, accV_ren rfl, rfl, Wk.acc0⟩, ?_⟩ | refine ⟨⟨_, _, rfl, rfl, Wk.uncap⟩, ?_⟩ | refine ⟨⟨_, _, rfl, rfl, Wk.nil⟩, ?_⟩)) ⟨⟨_, _, _, rfl, rfl, rfl, WkO.mapp KD.str⟩, trivial⟩)
theorem do_app0 (F : FS) (c : Nat) (name to : List Nat) (n : Int) (hold : findP name F = none) (zb : Bool) (b : List Int) (cb : Option Nat) (k : Nat) (hk : k ≤ b.length) (hb : b.length ≤ 100000000) :
    CallS Try.prog base 66 [.c (.mp 0), .agg ((chX 0 name to (fP zb b cb) n).map XC.p), .c (.p (.int .i64 k))] ⟨[(0, some (fM F c))], 1⟩ (.tup []) ⟨[(0, some (fM (updP name (apF true [] (b.take k)) c F) (updPC name (apF true [] (b.take k)) c F)))], 1⟩ := by
  have hl2 : (u8P b).length = b.length := u8P_len b
  refine CallS.of noNG lDo.2 rfl (M.start ?_)
  refine M.wkH (b0 := 0) rfl rfl (WkO.pmap KD.str) (M.go rfl ?_)
  refine M.cond rfl (fun _ => ?_) (fun hn => absurd (by decide) hn)
  refine M.midV [] ⟨[(0, some (fM (updP name (apF true [] (b.take k)) c F) (updPC name (apF true [] (b.take k)) c F)))], 1⟩ ?_ (M.go rfl (M.done (finQ.normal [(0, 0)] rfl rfl rfl Wk.rfl (by repeat' (first | exact True.intro | refine ⟨⟨_, _, _, rfl, rfl, rfl, WkO.rfl⟩, ?_⟩ | refine HeapOK.acc rfl rfl ?_ | refine HeapOK.es rfl rfl ?_)))))
  refine M.go rfl ?_
  refine M.regF (MF.go rfl ?_)
  refine MF.op trivial (SOp.look (a := name) KD.str rfl rfl rfl) ?_
  rw [show (findK name (pv F)).getD (XV.c (.p (.tz true 0 [] none))) = .c (.p (.tz true 0 [] none)) by rw [findK_pv, hold]; rfl]
  refine MF.go rfl ?_
  refine MF.use0 trivial clip0_spec rfl rfl rfl ?_
  refine MF.go rfl ?_
  refine MF.op trivial (SOp.sl (l := 0) (r := k) rfl rfl ⟨_, _, rfl, by omega, by omega⟩ (by omega) (by omega)) ?_
  rw [List.drop_zero, Nat.sub_zero, u8P_take]
  obtain ⟨new, hnew⟩ : ∃ new, new = b.take k := ⟨_, rfl⟩
  rw [← hnew]
  have hnl : new.length ≤ b.length := by rw [hnew]; simp; omega
  refine MF.go rfl ?_
  by_cases h0 : new = []
  · rw [apF, if_pos h0]
    refine MF.op trivial (SOp.app0 rfl rfl (by rw [h0]; exact .tz) (.inr ⟨_, _, _, _, rfl⟩)) ?_
    refine MF.go rfl ?_
    refine MF.op trivial (SOp.upd (a := name) KD.str rfl rfl rfl rfl rfl) ?_
    rw [updK_pv, updC_pv]
    refine MF.go rfl ?_
    refine MF.nil mixed (Fnl.nodup rfl) rfl (by refine ⟨⟨stepX_ok rfl, stepX_ok rfl, trivial⟩, ⟨stepX_ok rfl, trivial⟩, ⟨?_, trivial⟩, trivial⟩; exact SOp.sv (SOp.sl (z := zb) (el := u8P b) (c := cb) (l := 0) (r := k) rfl rfl ⟨_, _, rfl, by omega, by omega⟩ (by omega) (by omega)) (by rw [List.drop_zero, Nat.sub_zero, u8P_take, ← hnew])) (M.go rfl ?_)
    exact M.done ⟨rfl, Sh.ren [(0, 0)] rfl (by repeat' (first | exact True.intro | refine ⟨⟨_, _, rfl, rfl, Wk.rfl⟩, ?_⟩ | refine ⟨⟨_, _, accV_ren rfl, rfl, Wk.rfl⟩, ?_⟩ | refine ⟨⟨_, _, accV_ren rfl, rfl, Wk.acc0⟩, ?_⟩ | refine ⟨⟨_, _, rfl, rfl, Wk.uncap⟩, ?_⟩ | refine ⟨⟨_, _, rfl, rfl, Wk.nil⟩, ?_⟩)) ⟨⟨_, _, _, rfl, rfl, rfl, WkO.mapp KD.str⟩, trivial⟩⟩
  · rw [apF, if_neg h0]
    have h1 : u8P new ≠ [] := by simpa [u8P] using h0
    have h2 : 0 < new.length := List.length_pos_iff.2 h0
    refine MF.op trivial (SOp.appC (ex := []) rfl rfl .tz h1 (by rw [u8P_len]; simp; omega) (by rw [u8P_len]; simp; omega)) ?_
    rw [List.nil_append, List.length_nil, Nat.zero_add]
    refine MF.go rfl ?_
    refine MF.op trivial (SOp.upd (a := name) KD.str rfl rfl rfl rfl rfl) ?_
    refine MF.go rfl ?_
    refine MF.nil mixed (Fnl.nodup rfl) rfl (by refine ⟨⟨stepX_ok rfl, stepX_ok rfl, trivial⟩, ⟨stepX_ok rfl, trivial⟩, ⟨?_, trivial⟩, trivial⟩; exact SOp.sv (SOp.sl (z := zb) (el := u8P b) (c := cb) (l := 0) (r := k) rfl rfl ⟨_, _, rfl, by omega, by omega⟩ (by omega) (by omega)) (by rw [List.drop_zero, Nat.sub_zero, u8P_take, ← hnew])) (M.go rfl (M.done ⟨rfl, ?_⟩))
    exact Sh.freezeU KD.str (b0 := 0) (b := 2) (s := 1) (c := none) (ES := F) (ky := name) (c0 := c) (el := u8P new) (m := (u8P new).length) rfl rfl rfl rfl (Sh.ren [(0, 0)] rfl (by repeat' (first | exact True.intro | refine ⟨⟨_, _, rfl, rfl, Wk.rfl⟩, ?_⟩ | refine ⟨⟨_, _, accV_ren rfl, rfl, Wk.rfl⟩, ?_⟩ | refine ⟨⟨_, _, accV_ren rfl, rfl, Wk.acc0⟩, ?_⟩ | refine ⟨⟨_, _, rfl, rfl, Wk.uncap⟩, ?_⟩ | refine ⟨⟨_, _, rfl, rfl, Wk.nil⟩, ?_⟩)) ⟨⟨_, _, _, rfl, rfl, rfl, WkO.mapp KD.str⟩, trivial⟩)
theorem do_mv (F : FS) (c : Nat) (name to : List Nat) (n : Int) (z : Bool) (old : List Int) (oc : Option Nat) (hold : findP name F = some (fP z old oc)) (b : PC) (k : Int) :
    CallS Try.prog base 66 [.c (.mp 0), .agg ((chX 3 name to b n).map XC.p), .c (.p (.int .i64 k))] ⟨[(0, some (fM F c))], 1⟩ (.tup []) ⟨[(0, some (fM (updP to (fP z old oc) c (delP name F)) (updPC to (fP z old oc) c (delP name F))))], 1⟩ := by
  refine CallS.of noNG lDo.2 rfl (M.start ?_)
  refine M.wkH (b0 := 0) rfl rfl (WkO.pmap KD.str) (M.go rfl ?_)
  refine M.cond rfl (fun hn => absurd hn (by decide)) (fun _ => ?_)
  refine M.go rfl ?_
  refine M.cond rfl (fun hn => absurd hn (by decide)) (fun _ => ?_)
  refine M.go rfl ?_
  refine M.cond rfl (fun hn => absurd hn (by decide)) (fun _ => ?_)
  refine M.go rfl ?_
  refine M.op trivial (SOp.look (a := name) KD.str rfl rfl rfl) ?_
  rw [show (findK name (pv F)).getD (XV.c (.p (.tz true 0 [] none))) = .c (.p (fP z old oc)) by rw [findK_pv, hold]; rfl, show lookV false (XV.c (.p (fP z old oc))) (findK name (pv F)).isSome = .c (.p (fP z old oc)) from rfl]
  refine M.go rfl ?_
  refine M.op trivial (SOp.del (a := name) KD.str rfl rfl rfl (by rw [findK_pv, hold]; rfl)) ?_
  rw [delK_pv]
  refine M.go rfl ?_
  refine M.op trivial (SOp.upd (a := to) KD.str rfl rfl rfl rfl rfl) ?_
  rw [updK_pv, updC_pv]
  refine M.go rfl ?_
  exact M.done (finQ.normal [(0, 0)] rfl rfl rfl Wk.rfl ⟨⟨_, _, _, rfl, rfl, rfl, WkO.mapp KD.str⟩, trivial⟩)
end Go.Proofs.Ytjlfojgacnphmaa

namespace Go.Proofs.Ytjlfojgacnphmaa
open Go.RowKit Sim Go Sym
set_option maxRecDepth 100000
set_option linter.unusedVariables false
set_option linter.unusedSimpArgs false
variable {base : Nat}
def hD0 (room : Int) (L : FS) (lc : Nat) (F : FS) (c : Nat) : HS := ⟨[(2, some (fM F c)), (1, some (fM L lc)), (0, some (.row [.p (.int .i64 room), .mp 1, .mp 2, .p (.tz true 5 [] none)] true))], 3⟩
def hD1 (a : Nat) (room : Int) (L : FS) (lc : Nat) (F : FS) (c : Nat) (w : PC) (W : List PC) : HS := ⟨[(a, some (.els 5 (w :: W))), (2, some (fM F c)), (1, some (fM L lc)), (0, some (.row [.p (.int .i64 room), .mp 1, .mp 2, .acc a 5 (w :: W)] true))], a + 1⟩
theorem accRow {m : Nat} {x : PC} {l : List PC} (h : m = (x :: l).length) (s b : Nat) : Wk (.c (.sl b 0 m s none)) (.c (.acc b s (x :: l))) := by subst h; exact Wk.of rfl
noncomputable def lRoom : {F : LF // lowerF Try.prog 56 = some F} := ⟨_, rfl⟩
def roomI (n : Int) : Int := minI (maxI n 0) 4194304
theorem room_spec (n : Int) : CallS Try.prog base 56 [.c (.p (.int .i64 n))] ⟨[], 0⟩ (.c (.p (.int .i64 (roomI n)))) ⟨[], 0⟩ := by
  refine CallS.of noNG lRoom.2 rfl (M.start (M.go rfl ?_))
  exact M.ret (M.go rfl (M.done (finQ.ret [] rfl rfl rfl (by first | exact Wk.rfl | exact Wk.uncap | exact Wk.nil | exact Wk.b1 rfl | exact Wk.t2 Wk.rfl (Wk.b1 rfl)) (by repeat' (first | exact True.intro | refine ⟨⟨_, _, _, rfl, rfl, rfl, WkO.rfl⟩, ?_⟩ | refine HeapOK.acc rfl rfl ?_ | refine HeapOK.es rfl rfl ?_)))))
noncomputable def lDNew : {F : LF // lowerF Try.prog 19 = some F} := ⟨_, rfl⟩
theorem dnew_spec (n : Int) : CallS Try.prog base 19 [.c (.p (.int .i64 n))] ⟨[], 0⟩ (.c (.ptr 0 0)) (hD0 (roomI n) [] 0 [] 0) := by
  refine CallS.of noNG lDNew.2 rfl (M.start (M.go rfl ?_))
  refine M.use0 trivial (room_spec n) rfl rfl rfl ?_
  refine M.go rfl ?_
  refine M.op trivial SOp.mkM ?_
  refine M.op trivial SOp.mkM ?_
  refine M.go rfl ?_
  exact M.ret (M.go rfl (M.done (finQ.ret [(0, 2), (1, 0), (2, 1)] rfl rfl rfl (by first | exact Wk.rfl | exact Wk.uncap | exact Wk.nil | exact Wk.b1 rfl | exact Wk.t2 Wk.rfl (Wk.b1 rfl)) ⟨⟨_, _, _, rfl, rfl, rfl, WkO.mapp KD.str (l := [])⟩, ⟨_, _, _, rfl, rfl, rfl, WkO.mapp KD.str (l := [])⟩, ⟨_, _, _, rfl, rfl, rfl, WkO.row ⟨Wk.rfl, Wk.rfl, Wk.rfl, Wk.nil, trivial⟩⟩, trivial⟩)))
noncomputable def lThr : {F : LF // lowerF Try.prog 71 = some F} := ⟨_, rfl⟩
theorem there0_spec (room : Int) (L : FS) (lc : Nat) (F : FS) (c : Nat) (name : List Nat) : CallS Try.prog base 71 [.c (.ptr 0 0), .c (.p (.str name))] (hD0 room L lc F c) (.c (.p (.bs (findP name F).isSome))) (hD0 room L lc F c) := by
  refine CallS.of noNG lThr.2 rfl (M.start ?_)
  refine M.wkH (b0 := 2) rfl rfl (WkO.pmap KD.str) (M.go rfl ?_)
  refine M.op trivial (SOp.look (a := name) KD.str rfl rfl rfl) ?_
  rw [show (findK name (pv F)).isSome = (findP name F).isSome by rw [findK_pv, Option.isSome_map]]
  refine M.go rfl ?_
  exact M.ret (M.go rfl (M.done (finQ.ret [(0, 0), (1, 1), (2, 2)] rfl rfl rfl (by first | exact Wk.rfl | exact Wk.uncap | exact Wk.nil | exact Wk.b1 rfl | exact Wk.t2 Wk.rfl (Wk.b1 rfl)) ⟨⟨_, _, _, rfl, rfl, rfl, WkO.mapp KD.str⟩, ⟨_, _, _, rfl, rfl, rfl, WkO.rfl⟩, ⟨_, _, _, rfl, rfl, rfl, WkO.rfl⟩, trivial⟩)))
theorem there1_spec (room : Int) (L : FS) (lc : Nat) (F : FS) (c : Nat) (w : PC) (W : List PC) (name : List Nat) : CallS Try.prog base 71 [.c (.ptr 0 0), .c (.p (.str name))] (hD1 3 room L lc F c w W) (.c (.p (.bs (findP name F).isSome))) (hD1 3 room L lc F c w W) := by
  refine CallS.of noNG lThr.2 rfl (M.start ?_)
  refine M.wkH (b0 := 2) rfl rfl (WkO.pmap KD.str) (M.go rfl ?_)
  refine M.op trivial (SOp.look (a := name) KD.str rfl rfl rfl) ?_
  rw [show (findK name (pv F)).isSome = (findP name F).isSome by rw [findK_pv, Option.isSome_map]]
  refine M.go rfl ?_
  exact M.ret (M.go rfl (M.done (finQ.ret [(0, 0), (1, 1), (2, 2), (3, 3)] rfl rfl rfl (by first | exact Wk.rfl | exact Wk.uncap | exact Wk.nil | exact Wk.b1 rfl | exact Wk.t2 Wk.rfl (Wk.b1 rfl)) ⟨⟨_, _, _, rfl, rfl, rfl, WkO.rfl⟩, ⟨_, _, _, rfl, rfl, rfl, WkO.mapp KD.str⟩, ⟨_, _, _, rfl, rfl, rfl, WkO.rfl⟩, ⟨_, _, _, rfl, rfl, rfl, WkO.rfl⟩, trivial⟩)))
noncomputable def lChg : {F : LF // lowerF Try.prog 72 = some F} := ⟨_, rfl⟩
theorem chg0_spec (room : Int) (L : FS) (lc : Nat) (F : FS) (c : Nat) (F2 : FS) (c2 : Nat) (kd : Int) (name to : List Nat) (z : Bool) (b : List Int) (cb : Option Nat) (n : Int)
    (hdo : CallS Try.prog base 66 [.c (.mp 0), .agg ((chX kd name to (fP z b cb) n).map XC.p), .c (.p (.int .i64 b.length))] ⟨[(0, some (fM F c))], 1⟩ (.tup []) ⟨[(0, some (fM F2 c2))], 1⟩) :
    CallS Try.prog base 72 [.c (.ptr 0 0), .agg ((chX kd name to (fP z b cb) n).map XC.p)] (hD0 room L lc F c) (.c (.p (.int .i64 0))) (hD1 3 room L lc F2 c2 (.agg (chX kd name to (fP z b cb) n)) []) := by
  have hl : (u8P b).length = b.length := u8P_len b
  refine CallS.of noNG lChg.2 rfl (M.start (M.go rfl ?_))
  refine M.regD (MD.go rfl ?_)
  rw [hl]
  refine MD.use trivial hdo [(0, 2)] rfl rfl rfl (by repeat' (first | exact True.intro | refine ⟨⟨_, _, _, rfl, rfl, rfl, WkO.rfl⟩, ?_⟩ | refine HeapOK.acc rfl rfl ?_ | refine HeapOK.es rfl rfl ?_)) rfl rfl ?_
  refine MD.go rfl ?_
  refine MD.nil mixed (Fnl.nodup rfl) (M.go rfl ?_)
  refine M.regF (MF.go rfl ?_)
  refine MF.op trivial (SOp.appN rfl rfl (.own rfl rfl) (by simp) (by simp)) ?_
  refine MF.go rfl ?_
  refine MF.nil mixed (Fnl.nodup rfl) rfl ⟨⟨stepX_ok rfl, trivial⟩, trivial⟩ (M.go rfl ?_)
  exact M.ret (M.go rfl (M.done (finQ.ret [(0, 0), (1, 1), (2, 2), (3, 5)] rfl rfl rfl (by first | exact Wk.rfl | exact Wk.uncap | exact Wk.nil | exact Wk.b1 rfl | exact Wk.t2 Wk.rfl (Wk.b1 rfl)) ⟨⟨_, _, _, rfl, rfl, rfl, WkO.rfl⟩, ⟨_, _, _, rfl, rfl, rfl, WkO.rfl⟩, ⟨_, _, _, rfl, rfl, rfl, WkO.rfl⟩, ⟨_, _, _, rfl, rfl, rfl, WkO.row ⟨Wk.rfl, Wk.rfl, Wk.rfl, accRow rfl 5 5, trivial⟩⟩, trivial⟩)))
theorem chg1_spec (room : Int) (L : FS) (lc : Nat) (F : FS) (c : Nat) (F2 : FS) (c2 : Nat) (w : PC) (W : List PC) (kd : Int) (name to : List Nat) (z : Bool) (b : List Int) (cb : Option Nat) (n : Int) (hW : W.length ≤ 1000000)
    (hdo : CallS Try.prog base 66 [.c (.mp 0), .agg ((chX kd name to (fP z b cb) n).map XC.p), .c (.p (.int .i64 b.length))] ⟨[(0, some (fM F c))], 1⟩ (.tup []) ⟨[(0, some (fM F2 c2))], 1⟩) :
    CallS Try.prog base 72 [.c (.ptr 0 0), .agg ((chX kd name to (fP z b cb) n).map XC.p)] (hD1 3 room L lc F c w W) (.c (.p (.int .i64 0))) (hD1 4 room L lc F2 c2 w (W ++ [.agg (chX kd name to (fP z b cb) n)])) := by
  have hl : (u8P b).length = b.length := u8P_len b
  refine CallS.of noNG lChg.2 rfl (M.start (M.go rfl ?_))
  refine M.regD (MD.go rfl ?_)
  rw [hl]
  refine MD.use trivial hdo [(0, 2)] rfl rfl rfl (by repeat' (first | exact True.intro | refine ⟨⟨_, _, _, rfl, rfl, rfl, WkO.rfl⟩, ?_⟩ | refine HeapOK.acc rfl rfl ?_ | refine HeapOK.es rfl rfl ?_)) rfl rfl ?_
  refine MD.go rfl ?_
  refine MD.nil mixed (Fnl.nodup rfl) (M.go rfl ?_)
  refine M.regF (MF.go rfl ?_)
  refine MF.op trivial (SOp.appA rfl rfl rfl (.own rfl rfl) (by simp) (by simp; omega)) ?_
  refine MF.go rfl ?_
  refine MF.nil mixed (Fnl.nodup rfl) rfl ⟨⟨stepX_ok rfl, trivial⟩, trivial⟩ (M.go rfl ?_)
  exact M.ret (M.go rfl (M.done (finQ.ret [(0, 0), (1, 1), (2, 2), (3, 3), (4, 6)] rfl rfl rfl (by first | exact Wk.rfl | exact Wk.uncap | exact Wk.nil | exact Wk.b1 rfl | exact Wk.t2 Wk.rfl (Wk.b1 rfl)) ⟨⟨_, _, _, rfl, rfl, rfl, WkO.rfl⟩, ⟨_, _, _, rfl, rfl, rfl, WkO.rfl⟩, ⟨_, _, _, rfl, rfl, rfl, WkO.rfl⟩, ⟨_, _, _, rfl, rfl, rfl, WkO.row ⟨Wk.rfl, Wk.rfl, Wk.rfl, by first | exact Wk.rfl | exact accRow (by simp) 5 6, trivial⟩⟩, trivial⟩)))
end Go.Proofs.Ytjlfojgacnphmaa

namespace Go.Proofs.Ytjlfojgacnphmaa
open Go.RowKit Sim Go Sym
set_option maxRecDepth 100000
set_option linter.unusedVariables false
set_option linter.unusedSimpArgs false
variable {base : Nat}
def lenP : PC → Nat
  | .tz _ _ el _ => el.length
  | _ => 0
structure FOK (F : FS) (c : Nat) : Prop where
  old : ∀ e ∈ F, e.1 < c
  nd : (F.map (·.1)).Nodup
  f : ∀ e ∈ F, ∃ z bs cp, e.2.2 = fP z bs cp
def usedN (F : FS) : Nat := (F.map fun e => lenP e.2.2).sum
def left (F : FS) (S : List Nat) : FS := F.filter fun e => !(S.any (Nat.beq e.1))
theorem beq_any {S : List Nat} {b : Nat} : S.any (Nat.beq b) = true ↔ b ∈ S := by
  rw [List.any_eq_true]
  constructor
  · rintro ⟨x, hx, h⟩; rw [Nat.beq_eq] at h; subst h; exact hx
  · intro h; exact ⟨b, h, by rw [Nat.beq_eq]⟩
theorem left_mem {F : FS} {S : List Nat} {e : Nat × List Nat × PC} : e ∈ left F S ↔ e ∈ F ∧ e.1 ∉ S := by
  rw [left, List.mem_filter]
  refine and_congr_right fun _ => ?_
  rw [Bool.not_eq_true', ← Bool.not_eq_true, beq_any]
theorem left_cons (e : Nat × List Nat × PC) (F : FS) (S : List Nat) : left (e :: F) S = if e.1 ∈ S then left F S else e :: left F S := by
  simp only [left, List.filter_cons]
  by_cases h : e.1 ∈ S
  · rw [if_pos h, if_neg (by rw [beq_any.2 h]; simp)]
  · rw [if_neg h, if_pos (by have : S.any (Nat.beq e.1) = false := by rw [← Bool.not_eq_true, beq_any]; exact h
                             rw [this]; rfl)]
theorem left_step {F : FS} {S : List Nat} {q : Nat × List Nat × PC} (hn : (F.map (·.1)).Nodup) (hq : q ∈ F) (hs : q.1 ∉ S) : (left F (S ++ [q.1])).length + 1 = (left F S).length ∧ usedN (left F (S ++ [q.1])) + lenP q.2.2 = usedN (left F S) := by
  induction F with
  | nil => cases hq
  | cons e F ih =>
    simp only [List.map_cons, List.nodup_cons] at hn
    rw [left_cons, left_cons]
    rcases List.mem_cons.1 hq with rfl | hq'
    · rw [if_pos (by simp), if_neg hs]
      have : left F (S ++ [q.1]) = left F S := by
        unfold left
        refine List.filter_congr fun x hx => ?_
        have hne : x.1 ≠ q.1 := fun h => hn.1 (List.mem_map.2 ⟨x, hx, h⟩)
        rw [List.any_append]
        have : [q.1].any (Nat.beq x.1) = false := by rw [← Bool.not_eq_true, beq_any]; simpa using hne
        rw [this, Bool.or_false]
      rw [this]
      exact ⟨by simp, by simp [usedN, Nat.add_comm]⟩
    · have h := ih hn.2 hq'
      have hne : e.1 ≠ q.1 := fun h => hn.1 (List.mem_map.2 ⟨q, hq', h.symm⟩)
      by_cases he : e.1 ∈ S
      · rw [if_pos (by simp [he]), if_pos he]; exact h
      · rw [if_neg (by simp [he, hne]), if_neg he]
        refine ⟨by simp only [List.length_cons]; omega, ?_⟩
        have h2 := h.2
        simp only [usedN, List.map_cons, List.sum_cons] at h2 ⊢
        omega
theorem left_nil {F : FS} {S : List Nat} (h : (left F S).length = 0) : (mK KD.str (pv F)).filter (fun e => !(S.any (Nat.beq e.1))) = [] := by
  have h1 : left F S = [] := List.eq_nil_of_length_eq_zero h
  rw [List.filter_eq_nil_iff]
  intro x hx hc
  simp only [mK, pv, List.map_map, List.mem_map, Function.comp] at hx
  obtain ⟨e, he, rfl⟩ := hx
  have : e ∈ left F S := by rw [left, List.mem_filter]; exact ⟨he, hc⟩
  rw [h1] at this; cases this
theorem left_some {F : FS} {S : List Nat} (h : (left F S).length ≠ 0) : (mK KD.str (pv F)).filter (fun e => !(S.any (Nat.beq e.1))) ≠ [] := by
  intro hc
  rw [List.filter_eq_nil_iff] at hc
  have : left F S ≠ [] := fun e => h (by rw [e]; rfl)
  obtain ⟨e, he⟩ := List.exists_mem_of_ne_nil _ this
  rw [left, List.mem_filter] at he
  exact hc (e.1, .p (KD.str.kf e.2.1), .c (.p e.2.2)) (by simp only [mK, pv, List.map_map, List.mem_map, Function.comp]; exact ⟨e, he.1, rfl⟩) he.2
theorem left_all (F : FS) : left F [] = F := by
  unfold left
  rw [List.filter_eq_self]
  intro e he; rfl
theorem rng_cond {es : List (Nat × XC × XV)} {last : Nat} {b : Bool} (h : ∀ q ∈ es, q.1 < last) : (b && !es.isEmpty && es.all (fun e => Nat.ble last e.1)) = false := by
  cases es with
  | nil => simp
  | cons e es =>
    have := h e (by simp)
    have h2 : Nat.ble last e.1 = false := by rw [← Bool.not_eq_true, Nat.ble_eq]; omega
    simp [h2]
theorem mem_mK {F : FS} {q : Nat × XC × XV} (h : q ∈ mK KD.str (pv F)) : ∃ e ∈ F, q = (e.1, .p (KD.str.kf e.2.1), .c (.p e.2.2)) := by
  simp only [mK, pv, List.map_map, List.mem_map, Function.comp] at h
  obtain ⟨e, he, rfl⟩ := h
  exact ⟨e, he, rfl⟩
theorem mK_born (F : FS) : ((mK KD.str (pv F)).map fun e => e.1) = F.map (·.1) := by
  simp only [mK, pv, List.map_map]; rfl
theorem usedN_le_left (F : FS) (S : List Nat) : usedN (left F S) ≤ usedN F := by
  induction F with
  | nil => exact Nat.le_refl _
  | cons e F ih =>
    rw [left_cons]
    split
    · simp only [usedN, List.map_cons, List.sum_cons] at ih ⊢; omega
    · simp only [usedN, List.map_cons, List.sum_cons] at ih ⊢; omega
noncomputable def lUsed : {F : LF // lowerF Try.prog 41 = some F} := ⟨_, rfl⟩
def hU0 (room : Int) (L : FS) (lc : Nat) (F : FS) (c : Nat) (S : List Nat) (last : Nat) : HS := ⟨[(3, some (.iter (some 2) c S last)), (2, some (fM F c)), (1, some (fM L lc)), (0, some (.row [.p (.int .i64 room), .mp 1, .mp 2, .p (.tz true 5 [] none)] true))], 3 + 1⟩
theorem used0_loop (room : Int) (L : FS) (lc : Nat) (F : FS) (c : Nat) (hF : FOK F c) (hu : usedN F ≤ 1000000000000) (Q : QX) (hq : ∀ S, Q (.exit 0) [(3, .c (.p (.int .i64 (usedN F))))] (hU0 room L lc F c S c)) :
    ∀ (m : Nat) (S : List Nat), (left F S).length = m → XH Try.prog base lUsed.1.n 3 (lUsed.1.c.lp 0) [(3, .c (.p (.int .i64 ((usedN F - usedN (left F S) : Nat) : Int)))), (12, .c (.ptr 3 0))] (hU0 room L lc F c S c) Q := by
  intro m
  induction m with
  | zero =>
    intro S hS
    have hz : usedN (left F S) = 0 := by rw [List.eq_nil_of_length_eq_zero hS]; rfl
    rw [hz, Nat.sub_zero]
    refine M.round (M.wkH (b0 := 2) rfl rfl (WkO.pmap KD.str) (M.go rfl ?_))
    refine M.op trivial (SOp.nextN rfl rfl rfl (rng_cond fun q hq => ?_) (left_nil hS)) ?_
    · obtain ⟨e, he, rfl⟩ := mem_mK hq; exact hF.old e he
    refine M.go rfl ?_
    refine M.ren [(0, 0), (1, 1), (2, 2), (3, 3)] ?_ trivial rfl (by repeat' (first | exact True.intro | refine ⟨⟨_, _, rfl, rfl, Wk.rfl⟩, ?_⟩ | refine ⟨⟨_, _, accV_ren rfl, rfl, Wk.rfl⟩, ?_⟩ | refine ⟨⟨_, _, accV_ren rfl, rfl, Wk.acc0⟩, ?_⟩ | refine ⟨⟨_, _, rfl, rfl, Wk.uncap⟩, ?_⟩ | refine ⟨⟨_, _, rfl, rfl, Wk.nil⟩, ?_⟩)) ⟨⟨_, _, _, rfl, rfl, rfl, WkO.rfl⟩, ⟨_, _, _, rfl, rfl, rfl, WkO.mapp KD.str⟩, ⟨_, _, _, rfl, rfl, rfl, WkO.rfl⟩, ⟨_, _, _, rfl, rfl, rfl, WkO.rfl⟩, trivial⟩ (e' := [(3, .c (.p (.int .i64 (usedN F))))]) (h' := hU0 room L lc F c S c)
    exact M.exit (M.go rfl (M.done (hq S)))
  | succ m ih =>
    intro S hS
    refine M.round (M.wkH (b0 := 2) rfl rfl (WkO.pmap KD.str) (M.go rfl ?_))
    refine M.next trivial rfl rfl rfl (rng_cond fun q hq => ?_) (fun q hq => ?_) (left_some (by omega)) fun q hq hs => ?_
    · obtain ⟨e, he, rfl⟩ := mem_mK hq; exact hF.old e he
    · obtain ⟨e, he, rfl⟩ := mem_mK hq; exact hF.old e he
    have hq0 := hq
    obtain ⟨⟨b, nm, v⟩, he, rfl⟩ := mem_mK hq
    obtain ⟨z, bs, cp, hv⟩ := hF.f _ he
    obtain rfl : v = fP z bs cp := hv
    obtain ⟨g1, g2⟩ := left_step hF.nd he hs
    have hlb : lenP (fP z bs cp) = (u8P bs).length := rfl
    simp only [hlb] at g2
    have hle := usedN_le_left F S
    have ih' := ih (S ++ [b]) (by have := g1; simp only at this; omega)
    refine M.go rfl ?_
    refine M.op trivial (SOp.entry rfl rfl rfl hq0 (by rw [mK_born]; exact hF.nd)) ?_
    refine M.go rfl ?_
    rw [wr64 (n := ((usedN F - usedN (left F S) : Nat) : Int) + ((u8P bs).length : Int)) (by omega) (by omega), show ((usedN F - usedN (left F S) : Nat) : Int) + ((u8P bs).length : Int) = ((usedN F - usedN (left F (S ++ [b])) : Nat) : Int) by omega]
    exact M.again (XH.ren [(0, 0), (1, 1), (2, 2), (3, 3)] ih' rfl (by repeat' (first | exact True.intro | refine ⟨⟨_, _, rfl, rfl, Wk.rfl⟩, ?_⟩ | refine ⟨⟨_, _, accV_ren rfl, rfl, Wk.rfl⟩, ?_⟩ | refine ⟨⟨_, _, accV_ren rfl, rfl, Wk.acc0⟩, ?_⟩ | refine ⟨⟨_, _, rfl, rfl, Wk.uncap⟩, ?_⟩ | refine ⟨⟨_, _, rfl, rfl, Wk.nil⟩, ?_⟩)) ⟨⟨_, _, _, rfl, rfl, rfl, WkO.rfl⟩, ⟨_, _, _, rfl, rfl, rfl, WkO.mapp KD.str⟩, ⟨_, _, _, rfl, rfl, rfl, WkO.rfl⟩, ⟨_, _, _, rfl, rfl, rfl, WkO.rfl⟩, trivial⟩)
theorem used0_start (room : Int) (L : FS) (lc : Nat) (F : FS) (c : Nat) (hF : FOK F c) (hu : usedN F ≤ 1000000000000) (Q : QX) (hq : ∀ S, Q (.exit 0) [(3, .c (.p (.int .i64 (usedN F))))] (hU0 room L lc F c S c)) :
    XH Try.prog base lUsed.1.n 3 (lUsed.1.c.lp 0) [(3, .c (.p (.int .i64 ((0 : Nat) : Int)))), (12, .c (.ptr 3 0))] (hU0 room L lc F c [] c) Q := by
  have := used0_loop (base := base) room L lc F c hF hu Q hq _ [] rfl
  rwa [left_all, Nat.sub_self] at this
theorem used0_spec (room : Int) (L : FS) (lc : Nat) (F : FS) (c : Nat) (hF : FOK F c) (hu : usedN F ≤ 1000000000000) : CallS Try.prog base 41 [.c (.ptr 0 0)] (hD0 room L lc F c) (.c (.p (.int .i64 (usedN F)))) (hD0 room L lc F c) := by
  refine CallS.of noNG lUsed.2 rfl (M.start (M.wkH (b0 := 2) rfl rfl (WkO.pmap KD.str) (M.go rfl ?_)))
  refine M.op trivial (SOp.rng rfl rfl) ?_
  refine M.go rfl ?_
  refine M.loop (XH.ren [(0, 0), (1, 1), (2, 2), (3, 3)] (used0_start room L lc F c hF hu _ fun S => ?_) rfl (by repeat' (first | exact True.intro | refine ⟨⟨_, _, rfl, rfl, Wk.rfl⟩, ?_⟩ | refine ⟨⟨_, _, accV_ren rfl, rfl, Wk.rfl⟩, ?_⟩ | refine ⟨⟨_, _, accV_ren rfl, rfl, Wk.acc0⟩, ?_⟩ | refine ⟨⟨_, _, rfl, rfl, Wk.uncap⟩, ?_⟩ | refine ⟨⟨_, _, rfl, rfl, Wk.nil⟩, ?_⟩)) ⟨⟨_, _, _, rfl, rfl, rfl, WkO.rfl⟩, ⟨_, _, _, rfl, rfl, rfl, WkO.mapp KD.str⟩, ⟨_, _, _, rfl, rfl, rfl, WkO.rfl⟩, ⟨_, _, _, rfl, rfl, rfl, WkO.rfl⟩, trivial⟩)
  refine M.q (M.go rfl ?_)
  exact M.ret (M.go rfl (M.done (finQ.ret [(0, 0), (1, 1), (2, 2)] rfl rfl rfl (by first | exact Wk.rfl | exact Wk.uncap | exact Wk.nil | exact Wk.b1 rfl | exact Wk.t2 Wk.rfl (Wk.b1 rfl)) ⟨⟨_, _, _, rfl, rfl, rfl, WkO.rfl⟩, ⟨_, _, _, rfl, rfl, rfl, WkO.rfl⟩, ⟨_, _, _, rfl, rfl, rfl, WkO.rfl⟩, trivial⟩)))
def hU1 (room : Int) (L : FS) (lc : Nat) (F : FS) (c : Nat) (w : PC) (W : List PC) (S : List Nat) (last : Nat) : HS := ⟨[(4, some (.iter (some 2) c S last)), (3, some (.els 5 (w :: W))), (2, some (fM F c)), (1, some (fM L lc)), (0, some (.row [.p (.int .i64 room), .mp 1, .mp 2, .acc 3 5 (w :: W)] true))], 4 + 1⟩
theorem used1_loop (room : Int) (L : FS) (lc : Nat) (F : FS) (c : Nat) (w : PC) (W : List PC) (hF : FOK F c) (hu : usedN F ≤ 1000000000000) (Q : QX) (hq : ∀ S, Q (.exit 0) [(3, .c (.p (.int .i64 (usedN F))))] (hU1 room L lc F c w W S c)) :
    ∀ (m : Nat) (S : List Nat), (left F S).length = m → XH Try.prog base lUsed.1.n 4 (lUsed.1.c.lp 0) [(3, .c (.p (.int .i64 ((usedN F - usedN (left F S) : Nat) : Int)))), (12, .c (.ptr 4 0))] (hU1 room L lc F c w W S c) Q := by
  intro m
  induction m with
  | zero =>
    intro S hS
    have hz : usedN (left F S) = 0 := by rw [List.eq_nil_of_length_eq_zero hS]; rfl
    rw [hz, Nat.sub_zero]
    refine M.round (M.wkH (b0 := 2) rfl rfl (WkO.pmap KD.str) (M.go rfl ?_))
    refine M.op trivial (SOp.nextN rfl rfl rfl (rng_cond fun q hq => ?_) (left_nil hS)) ?_
    · obtain ⟨e, he, rfl⟩ := mem_mK hq; exact hF.old e he
    refine M.go rfl ?_
    refine M.ren [(0, 0), (1, 1), (2, 2), (3, 3), (4, 4)] ?_ trivial rfl (by repeat' (first | exact True.intro | refine ⟨⟨_, _, rfl, rfl, Wk.rfl⟩, ?_⟩ | refine ⟨⟨_, _, accV_ren rfl, rfl, Wk.rfl⟩, ?_⟩ | refine ⟨⟨_, _, accV_ren rfl, rfl, Wk.acc0⟩, ?_⟩ | refine ⟨⟨_, _, rfl, rfl, Wk.uncap⟩, ?_⟩ | refine ⟨⟨_, _, rfl, rfl, Wk.nil⟩, ?_⟩)) ⟨⟨_, _, _, rfl, rfl, rfl, WkO.rfl⟩, ⟨_, _, _, rfl, rfl, rfl, WkO.rfl⟩, ⟨_, _, _, rfl, rfl, rfl, WkO.mapp KD.str⟩, ⟨_, _, _, rfl, rfl, rfl, WkO.rfl⟩, ⟨_, _, _, rfl, rfl, rfl, WkO.rfl⟩, trivial⟩ (e' := [(3, .c (.p (.int .i64 (usedN F))))]) (h' := hU1 room L lc F c w W S c)
    exact M.exit (M.go rfl (M.done (hq S)))
  | succ m ih =>
    intro S hS
    refine M.round (M.wkH (b0 := 2) rfl rfl (WkO.pmap KD.str) (M.go rfl ?_))
    refine M.next trivial rfl rfl rfl (rng_cond fun q hq => ?_) (fun q hq => ?_) (left_some (by omega)) fun q hq hs => ?_
    · obtain ⟨e, he, rfl⟩ := mem_mK hq; exact hF.old e he
    · obtain ⟨e, he, rfl⟩ := mem_mK hq; exact hF.old e he
    have hq0 := hq
    obtain ⟨⟨b, nm, v⟩, he, rfl⟩ := mem_mK hq
    obtain ⟨z, bs, cp, hv⟩ := hF.f _ he
    obtain rfl : v = fP z bs cp := hv
    obtain ⟨g1, g2⟩ := left_step hF.nd he hs
    have hlb : lenP (fP z bs cp) = (u8P bs).length := rfl
    simp only [hlb] at g2
    have hle := usedN_le_left F S
    have ih' := ih (S ++ [b]) (by have := g1; simp only at this; omega)
    refine M.go rfl ?_
    refine M.op trivial (SOp.entry rfl rfl rfl hq0 (by rw [mK_born]; exact hF.nd)) ?_
    refine M.go rfl ?_
    rw [wr64 (n := ((usedN F - usedN (left F S) : Nat) : Int) + ((u8P bs).length : Int)) (by omega) (by omega), show ((usedN F - usedN (left F S) : Nat) : Int) + ((u8P bs).length : Int) = ((usedN F - usedN (left F (S ++ [b])) : Nat) : Int) by omega]
    exact M.again (XH.ren [(0, 0), (1, 1), (2, 2), (3, 3), (4, 4)] ih' rfl (by repeat' (first | exact True.intro | refine ⟨⟨_, _, rfl, rfl, Wk.rfl⟩, ?_⟩ | refine ⟨⟨_, _, accV_ren rfl, rfl, Wk.rfl⟩, ?_⟩ | refine ⟨⟨_, _, accV_ren rfl, rfl, Wk.acc0⟩, ?_⟩ | refine ⟨⟨_, _, rfl, rfl, Wk.uncap⟩, ?_⟩ | refine ⟨⟨_, _, rfl, rfl, Wk.nil⟩, ?_⟩)) ⟨⟨_, _, _, rfl, rfl, rfl, WkO.rfl⟩, ⟨_, _, _, rfl, rfl, rfl, WkO.rfl⟩, ⟨_, _, _, rfl, rfl, rfl, WkO.mapp KD.str⟩, ⟨_, _, _, rfl, rfl, rfl, WkO.rfl⟩, ⟨_, _, _, rfl, rfl, rfl, WkO.rfl⟩, trivial⟩)
theorem used1_start (room : Int) (L : FS) (lc : Nat) (F : FS) (c : Nat) (w : PC) (W : List PC) (hF : FOK F c) (hu : usedN F ≤ 1000000000000) (Q : QX) (hq : ∀ S, Q (.exit 0) [(3, .c (.p (.int .i64 (usedN F))))] (hU1 room L lc F c w W S c)) :
    XH Try.prog base lUsed.1.n 4 (lUsed.1.c.lp 0) [(3, .c (.p (.int .i64 ((0 : Nat) : Int)))), (12, .c (.ptr 4 0))] (hU1 room L lc F c w W [] c) Q := by
  have := used1_loop (base := base) room L lc F c w W hF hu Q hq _ [] rfl
  rwa [left_all, Nat.sub_self] at this
theorem used1_spec (room : Int) (L : FS) (lc : Nat) (F : FS) (c : Nat) (w : PC) (W : List PC) (hF : FOK F c) (hu : usedN F ≤ 1000000000000) : CallS Try.prog base 41 [.c (.ptr 0 0)] (hD1 3 room L lc F c w W) (.c (.p (.int .i64 (usedN F)))) (hD1 3 room L lc F c w W) := by
  refine CallS.of noNG lUsed.2 rfl (M.start (M.wkH (b0 := 2) rfl rfl (WkO.pmap KD.str) (M.go rfl ?_)))
  refine M.op trivial (SOp.rng rfl rfl) ?_
  refine M.go rfl ?_
  refine M.loop (XH.ren [(0, 0), (1, 1), (2, 2), (3, 3), (4, 4)] (used1_start room L lc F c w W hF hu _ fun S => ?_) rfl (by repeat' (first | exact True.intro | refine ⟨⟨_, _, rfl, rfl, Wk.rfl⟩, ?_⟩ | refine ⟨⟨_, _, accV_ren rfl, rfl, Wk.rfl⟩, ?_⟩ | refine ⟨⟨_, _, accV_ren rfl, rfl, Wk.acc0⟩, ?_⟩ | refine ⟨⟨_, _, rfl, rfl, Wk.uncap⟩, ?_⟩ | refine ⟨⟨_, _, rfl, rfl, Wk.nil⟩, ?_⟩)) ⟨⟨_, _, _, rfl, rfl, rfl, WkO.rfl⟩, ⟨_, _, _, rfl, rfl, rfl, WkO.rfl⟩, ⟨_, _, _, rfl, rfl, rfl, WkO.mapp KD.str⟩, ⟨_, _, _, rfl, rfl, rfl, WkO.rfl⟩, ⟨_, _, _, rfl, rfl, rfl, WkO.rfl⟩, trivial⟩)
  refine M.q (M.go rfl ?_)
  exact M.ret (M.go rfl (M.done (finQ.ret [(0, 0), (1, 1), (2, 2), (3, 3)] rfl rfl rfl (by first | exact Wk.rfl | exact Wk.uncap | exact Wk.nil | exact Wk.b1 rfl | exact Wk.t2 Wk.rfl (Wk.b1 rfl)) ⟨⟨_, _, _, rfl, rfl, rfl, WkO.rfl⟩, ⟨_, _, _, rfl, rfl, rfl, WkO.rfl⟩, ⟨_, _, _, rfl, rfl, rfl, WkO.rfl⟩, ⟨_, _, _, rfl, rfl, rfl, WkO.rfl⟩, trivial⟩)))
end Go.Proofs.Ytjlfojgacnphmaa

namespace Go.Proofs.Ytjlfojgacnphmaa
open Go.RowKit Sim Go Sym
set_option maxRecDepth 100000
set_option linter.unusedVariables false
set_option linter.unusedSimpArgs false
variable {base : Nat}
noncomputable def lDAp : {F : LF // lowerF Try.prog 33 = some F} := ⟨_, rfl⟩
theorem maxKey (F : FS) : ((mK KD.str (pv F)).length : Int) = F.length := by simp [mK, pv]
theorem append0_spec (room : Int) (L : FS) (lc : Nat) (F : FS) (c : Nat) (name : List Nat) (zb : Bool) (b : List Int) (cb : Option Nat) (hm : CallS Try.prog base 70 [.c (.p (.str name))] ⟨[], 0⟩ (.c (.p (.bool true))) ⟨[], 0⟩) (hF : FOK F c) (hr : room ≤ 100000000000) (hroom : ((usedN F + b.length : Nat) : Int) ≤ room) (hfile : (findP name F).isSome = true ∨ F.length < 64) (F2 : FS) (c2 : Nat)
    (hdo : CallS Try.prog base 66 [.c (.mp 0), .agg ((chX 0 name [] (fP zb b none) 0).map XC.p), .c (.p (.int .i64 b.length))] ⟨[(0, some (fM F c))], 1⟩ (.tup []) ⟨[(0, some (fM F2 c2))], 1⟩) :
    CallS Try.prog base 33 [.c (.ptr 0 0), .c (.p (.str name)), .c (.p (.tz zb 1 (u8P b) cb))] (hD0 room L lc F c) (.c (.p (.int .i64 0))) (hD1 3 room L lc F2 c2 (.agg (chX 0 name [] (fP zb b none) 0)) []) := by
  have hlb : (u8P b).length = b.length := u8P_len b
  refine CallS.of noNG lDAp.2 rfl (M.start (M.go rfl ?_))
  refine M.use0 trivial hm rfl rfl rfl ?_
  refine M.go rfl ?_
  refine M.regF (MF.go rfl ?_)
  refine MF.use trivial (used0_spec room L lc F c hF (by omega)) [(0, 0), (1, 1), (2, 2)] rfl rfl rfl (by repeat' (first | exact True.intro | refine ⟨⟨_, _, _, rfl, rfl, rfl, WkO.rfl⟩, ?_⟩ | refine HeapOK.acc rfl rfl ?_ | refine HeapOK.es rfl rfl ?_)) rfl rfl ?_
  refine MF.go rfl ?_
  rw [hlb]
  refine MF.nil mixed (Fnl.nodup rfl) rfl ⟨⟨stepX_ok (by rw [← hlb]; rfl), trivial⟩, ⟨stepX_ok rfl, trivial⟩, trivial⟩ (M.go rfl ?_)
  rw [wr64 (n := room - (usedN F : Int)) (by omega) (by omega)]
  refine M.cond rfl (fun hn => absurd hn (by omega)) (fun _ => ?_)
  refine M.go rfl ?_
  refine M.use trivial (there0_spec room L lc F c name) [(0, 0), (1, 1), (2, 2)] rfl rfl rfl (by repeat' (first | exact True.intro | refine ⟨⟨_, _, _, rfl, rfl, rfl, WkO.rfl⟩, ?_⟩ | refine HeapOK.acc rfl rfl ?_ | refine HeapOK.es rfl rfl ?_)) rfl rfl ?_
  refine M.go rfl ?_
  refine M.decB rfl (fun hh => ?_) (fun hh => ?_)
  · refine M.go rfl ?_
    refine M.shO (Sh.wkH (b0 := 2) rfl rfl (WkO.pmap KD.str) Sh.refl) ?_
    refine M.op (by first | exact True.intro | exact rfl) (SOp.lenM rfl rfl) ?_
    refine M.shO (Sh.wkH (b0 := 2) rfl rfl (WkO.mapp KD.str) Sh.refl) ?_
    rw [maxKey]
    refine M.go rfl ?_
    refine M.cond rfl (fun hn => absurd hn (hfile.elim (fun h => by rw [h] at hh; cases hh) (fun h => by omega))) (fun _ => ?_)
    refine M.go rfl ?_
    refine M.use0 trivial (bcl_spec zb (u8P b) cb (by omega)) rfl rfl rfl ?_
    refine M.go rfl ?_
    refine M.use trivial (chg0_spec room L lc F c F2 c2 0 name [] zb b none 0 hdo) [(0, 0), (1, 1), (2, 2)] rfl rfl rfl (by repeat' (first | exact True.intro | refine ⟨⟨_, _, _, rfl, rfl, rfl, WkO.rfl⟩, ?_⟩ | refine HeapOK.acc rfl rfl ?_ | refine HeapOK.es rfl rfl ?_)) rfl rfl ?_
    refine M.go rfl ?_
    exact M.ret (M.go rfl (M.done (finQ.ret [(0, 0), (1, 1), (2, 2), (3, 3)] rfl rfl rfl (by first | exact Wk.rfl | exact Wk.uncap | exact Wk.nil | exact Wk.b1 rfl | exact Wk.t2 Wk.rfl (Wk.b1 rfl)) (by repeat' (first | exact True.intro | refine ⟨⟨_, _, _, rfl, rfl, rfl, WkO.rfl⟩, ?_⟩ | refine HeapOK.acc rfl rfl ?_ | refine HeapOK.es rfl rfl ?_)))))
  · refine M.go rfl ?_
    refine M.use0 trivial (bcl_spec zb (u8P b) cb (by omega)) rfl rfl rfl ?_
    refine M.go rfl ?_
    refine M.use trivial (chg0_spec room L lc F c F2 c2 0 name [] zb b none 0 hdo) [(0, 0), (1, 1), (2, 2)] rfl rfl rfl (by repeat' (first | exact True.intro | refine ⟨⟨_, _, _, rfl, rfl, rfl, WkO.rfl⟩, ?_⟩ | refine HeapOK.acc rfl rfl ?_ | refine HeapOK.es rfl rfl ?_)) rfl rfl ?_
    refine M.go rfl ?_
    exact M.ret (M.go rfl (M.done (finQ.ret [(0, 0), (1, 1), (2, 2), (3, 3)] rfl rfl rfl (by first | exact Wk.rfl | exact Wk.uncap | exact Wk.nil | exact Wk.b1 rfl | exact Wk.t2 Wk.rfl (Wk.b1 rfl)) (by repeat' (first | exact True.intro | refine ⟨⟨_, _, _, rfl, rfl, rfl, WkO.rfl⟩, ?_⟩ | refine HeapOK.acc rfl rfl ?_ | refine HeapOK.es rfl rfl ?_)))))
theorem append1_spec (room : Int) (L : FS) (lc : Nat) (F : FS) (c : Nat) (w : PC) (W : List PC) (hW : W.length ≤ 1000000) (name : List Nat) (zb : Bool) (b : List Int) (cb : Option Nat) (hm : CallS Try.prog base 70 [.c (.p (.str name))] ⟨[], 0⟩ (.c (.p (.bool true))) ⟨[], 0⟩) (hF : FOK F c) (hr : room ≤ 100000000000) (hroom : ((usedN F + b.length : Nat) : Int) ≤ room) (hfile : (findP name F).isSome = true ∨ F.length < 64) (F2 : FS) (c2 : Nat)
    (hdo : CallS Try.prog base 66 [.c (.mp 0), .agg ((chX 0 name [] (fP zb b none) 0).map XC.p), .c (.p (.int .i64 b.length))] ⟨[(0, some (fM F c))], 1⟩ (.tup []) ⟨[(0, some (fM F2 c2))], 1⟩) :
    CallS Try.prog base 33 [.c (.ptr 0 0), .c (.p (.str name)), .c (.p (.tz zb 1 (u8P b) cb))] (hD1 3 room L lc F c w W) (.c (.p (.int .i64 0))) (hD1 4 room L lc F2 c2 w (W ++ [.agg (chX 0 name [] (fP zb b none) 0)])) := by
  have hlb : (u8P b).length = b.length := u8P_len b
  refine CallS.of noNG lDAp.2 rfl (M.start (M.go rfl ?_))
  refine M.use0 trivial hm rfl rfl rfl ?_
  refine M.go rfl ?_
  refine M.regF (MF.go rfl ?_)
  refine MF.use trivial (used1_spec room L lc F c w W hF (by omega)) [(0, 0), (1, 1), (2, 2), (3, 3)] rfl rfl rfl (by repeat' (first | exact True.intro | refine ⟨⟨_, _, _, rfl, rfl, rfl, WkO.rfl⟩, ?_⟩ | refine HeapOK.acc rfl rfl ?_ | refine HeapOK.es rfl rfl ?_)) rfl rfl ?_
  refine MF.go rfl ?_
  rw [hlb]
  refine MF.nil mixed (Fnl.nodup rfl) rfl ⟨⟨stepX_ok (by rw [← hlb]; rfl), trivial⟩, ⟨stepX_ok rfl, trivial⟩, trivial⟩ (M.go rfl ?_)
  rw [wr64 (n := room - (usedN F : Int)) (by omega) (by omega)]
  refine M.cond rfl (fun hn => absurd hn (by omega)) (fun _ => ?_)
  refine M.go rfl ?_
  refine M.use trivial (there1_spec room L lc F c w W name) [(0, 0), (1, 1), (2, 2), (3, 3)] rfl rfl rfl (by repeat' (first | exact True.intro | refine ⟨⟨_, _, _, rfl, rfl, rfl, WkO.rfl⟩, ?_⟩ | refine HeapOK.acc rfl rfl ?_ | refine HeapOK.es rfl rfl ?_)) rfl rfl ?_
  refine M.go rfl ?_
  refine M.decB rfl (fun hh => ?_) (fun hh => ?_)
  · refine M.go rfl ?_
    refine M.shO (Sh.wkH (b0 := 2) rfl rfl (WkO.pmap KD.str) Sh.refl) ?_
    refine M.op (by first | exact True.intro | exact rfl) (SOp.lenM rfl rfl) ?_
    refine M.shO (Sh.wkH (b0 := 2) rfl rfl (WkO.mapp KD.str) Sh.refl) ?_
    rw [maxKey]
    refine M.go rfl ?_
    refine M.cond rfl (fun hn => absurd hn (hfile.elim (fun h => by rw [h] at hh; cases hh) (fun h => by omega))) (fun _ => ?_)
    refine M.go rfl ?_
    refine M.use0 trivial (bcl_spec zb (u8P b) cb (by omega)) rfl rfl rfl ?_
    refine M.go rfl ?_
    refine M.use trivial (chg1_spec room L lc F c F2 c2 w W 0 name [] zb b none 0 hW hdo) [(0, 0), (1, 1), (2, 2), (3, 3)] rfl rfl rfl (by repeat' (first | exact True.intro | refine ⟨⟨_, _, _, rfl, rfl, rfl, WkO.rfl⟩, ?_⟩ | refine HeapOK.acc rfl rfl ?_ | refine HeapOK.es rfl rfl ?_)) rfl rfl ?_
    refine M.go rfl ?_
    exact M.ret (M.go rfl (M.done (finQ.ret [(0, 0), (1, 1), (2, 2), (3, 3), (4, 4)] rfl rfl rfl (by first | exact Wk.rfl | exact Wk.uncap | exact Wk.nil | exact Wk.b1 rfl | exact Wk.t2 Wk.rfl (Wk.b1 rfl)) (by repeat' (first | exact True.intro | refine ⟨⟨_, _, _, rfl, rfl, rfl, WkO.rfl⟩, ?_⟩ | refine HeapOK.acc rfl rfl ?_ | refine HeapOK.es rfl rfl ?_)))))
  · refine M.go rfl ?_
    refine M.use0 trivial (bcl_spec zb (u8P b) cb (by omega)) rfl rfl rfl ?_
    refine M.go rfl ?_
    refine M.use trivial (chg1_spec room L lc F c F2 c2 w W 0 name [] zb b none 0 hW hdo) [(0, 0), (1, 1), (2, 2), (3, 3)] rfl rfl rfl (by repeat' (first | exact True.intro | refine ⟨⟨_, _, _, rfl, rfl, rfl, WkO.rfl⟩, ?_⟩ | refine HeapOK.acc rfl rfl ?_ | refine HeapOK.es rfl rfl ?_)) rfl rfl ?_
    refine M.go rfl ?_
    exact M.ret (M.go rfl (M.done (finQ.ret [(0, 0), (1, 1), (2, 2), (3, 3), (4, 4)] rfl rfl rfl (by first | exact Wk.rfl | exact Wk.uncap | exact Wk.nil | exact Wk.b1 rfl | exact Wk.t2 Wk.rfl (Wk.b1 rfl)) (by repeat' (first | exact True.intro | refine ⟨⟨_, _, _, rfl, rfl, rfl, WkO.rfl⟩, ?_⟩ | refine HeapOK.acc rfl rfl ?_ | refine HeapOK.es rfl rfl ?_)))))
end Go.Proofs.Ytjlfojgacnphmaa

namespace Go.Proofs.Ytjlfojgacnphmaa
open Go.RowKit Sim Go Sym
set_option maxRecDepth 100000
set_option linter.unusedVariables false
set_option linter.unusedSimpArgs false
variable {base : Nat}
theorem append1_full (room : Int) (L : FS) (lc : Nat) (F : FS) (c : Nat) (w : PC) (W : List PC) (hW : W.length ≤ 1000000) (name : List Nat) (zb : Bool) (b : List Int) (cb : Option Nat) (hm : CallS Try.prog base 70 [.c (.p (.str name))] ⟨[], 0⟩ (.c (.p (.bool true))) ⟨[], 0⟩) (hF : FOK F c) (hr : room ≤ 100000000000) (hroom : ((usedN F + b.length : Nat) : Int) ≤ room) (hfile : findP name F = none) (h64 : 64 ≤ F.length) :
    CallS Try.prog base 33 [.c (.ptr 0 0), .c (.p (.str name)), .c (.p (.tz zb 1 (u8P b) cb))] (hD1 3 room L lc F c w W) (.c (.p (.int .i64 2))) (hD1 3 room L lc F c w W) := by
  have hlb : (u8P b).length = b.length := u8P_len b
  refine CallS.of noNG lDAp.2 rfl (M.start (M.go rfl ?_))
  refine M.use0 trivial hm rfl rfl rfl ?_
  refine M.go rfl ?_
  refine M.regF (MF.go rfl ?_)
  refine MF.use trivial (used1_spec room L lc F c w W hF (by omega)) [(0, 0), (1, 1), (2, 2), (3, 3)] rfl rfl rfl (by repeat' (first | exact True.intro | refine ⟨⟨_, _, _, rfl, rfl, rfl, WkO.rfl⟩, ?_⟩ | refine HeapOK.acc rfl rfl ?_ | refine HeapOK.es rfl rfl ?_)) rfl rfl ?_
  refine MF.go rfl ?_
  rw [hlb]
  refine MF.nil mixed (Fnl.nodup rfl) rfl ⟨⟨stepX_ok (by rw [← hlb]; rfl), trivial⟩, ⟨stepX_ok rfl, trivial⟩, trivial⟩ (M.go rfl ?_)
  rw [wr64 (n := room - (usedN F : Int)) (by omega) (by omega)]
  refine M.cond rfl (fun hn => absurd hn (by omega)) (fun _ => ?_)
  refine M.go rfl ?_
  refine M.use trivial (there1_spec room L lc F c w W name) [(0, 0), (1, 1), (2, 2), (3, 3)] rfl rfl rfl (by repeat' (first | exact True.intro | refine ⟨⟨_, _, _, rfl, rfl, rfl, WkO.rfl⟩, ?_⟩ | refine HeapOK.acc rfl rfl ?_ | refine HeapOK.es rfl rfl ?_)) rfl rfl ?_
  refine M.go rfl ?_
  refine M.decB rfl (fun hh => ?_) (fun hh => ?_)
  · refine M.go rfl ?_
    refine M.shO (Sh.wkH (b0 := 2) rfl rfl (WkO.pmap KD.str) Sh.refl) ?_
    refine M.op (by first | exact True.intro | exact rfl) (SOp.lenM rfl rfl) ?_
    refine M.shO (Sh.wkH (b0 := 2) rfl rfl (WkO.mapp KD.str) Sh.refl) ?_
    rw [maxKey]
    refine M.go rfl ?_
    refine M.cond rfl (fun _ => ?_) (fun hn => absurd (by omega) hn)
    refine M.go rfl ?_
    exact M.ret (M.go rfl (M.done (finQ.ret [(0, 0), (1, 1), (2, 2), (3, 3)] rfl rfl rfl (by first | exact Wk.rfl | exact Wk.uncap | exact Wk.nil | exact Wk.b1 rfl | exact Wk.t2 Wk.rfl (Wk.b1 rfl)) (by repeat' (first | exact True.intro | refine ⟨⟨_, _, _, rfl, rfl, rfl, WkO.rfl⟩, ?_⟩ | refine HeapOK.acc rfl rfl ?_ | refine HeapOK.es rfl rfl ?_)))))
  · rw [hfile] at hh; cases hh
noncomputable def lMCl : {F : LF // lowerF Try.prog 65 = some F} := ⟨_, rfl⟩
theorem mclone_spec (F : FS) (c : Nat) : CallS Try.prog base 65 [.c (.mp 0)] ⟨[(0, some (fM F c))], 1⟩ (.c (.mp 1)) ⟨[(1, some (fM F c)), (0, some (fM F c))], 2⟩ := by
  refine CallS.of noNG lMCl.2 rfl (M.start (M.wkH (b0 := 0) rfl rfl (WkO.pmap KD.str) (M.go rfl ?_)))
  refine M.op trivial (SOp.ifc rfl) ?_
  refine M.op trivial (SOp.cln rfl rfl) ?_
  refine M.op trivial (SOp.asrt rfl) ?_
  refine M.go rfl ?_
  exact M.ret (M.go rfl (M.done (finQ.ret [(0, 0), (1, 1)] rfl rfl rfl (by first | exact Wk.rfl | exact Wk.uncap | exact Wk.nil | exact Wk.b1 rfl | exact Wk.t2 Wk.rfl (Wk.b1 rfl)) ⟨⟨_, _, _, rfl, rfl, rfl, WkO.mapp KD.str⟩, ⟨_, _, _, rfl, rfl, rfl, WkO.mapp KD.str⟩, trivial⟩)))
def hDS (bl : Nat) (room : Int) (L : FS) (lc : Nat) (F : FS) (c : Nat) : HS := ⟨[(bl, some (fM L lc)), (2, some (fM F c)), (0, some (.row [.p (.int .i64 room), .mp bl, .mp 2, .p (.tz true 5 [] none)] true))], bl + 1⟩
noncomputable def lSync : {F : LF // lowerF Try.prog 35 = some F} := ⟨_, rfl⟩
theorem sync0_spec (room : Int) (L : FS) (lc : Nat) (F : FS) (c : Nat) : CallS Try.prog base 35 [.c (.ptr 0 0)] (hD0 room L lc F c) (.tup []) (hDS 3 room F c F c) := by
  refine CallS.of noNG lSync.2 rfl (M.start (M.go rfl ?_))
  refine M.use trivial (mclone_spec F c) [(0, 2)] rfl rfl rfl (by repeat' (first | exact True.intro | refine ⟨⟨_, _, _, rfl, rfl, rfl, WkO.rfl⟩, ?_⟩ | refine HeapOK.acc rfl rfl ?_ | refine HeapOK.es rfl rfl ?_)) rfl rfl ?_
  refine M.go rfl ?_
  exact M.done (finQ.normal [(0, 0), (1, 1), (2, 2), (3, 3)] rfl rfl rfl Wk.rfl ⟨⟨_, _, _, rfl, rfl, rfl, WkO.rfl⟩, ⟨_, _, _, rfl, rfl, rfl, WkO.rfl⟩, ⟨_, _, _, rfl, rfl, rfl, WkO.row ⟨Wk.rfl, Wk.rfl, Wk.rfl, Wk.nil, trivial⟩⟩, trivial⟩)
theorem sync1_spec (room : Int) (L : FS) (lc : Nat) (F : FS) (c : Nat) (w : PC) (W : List PC) : CallS Try.prog base 35 [.c (.ptr 0 0)] (hD1 3 room L lc F c w W) (.tup []) (hDS 4 room F c F c) := by
  refine CallS.of noNG lSync.2 rfl (M.start (M.go rfl ?_))
  refine M.use trivial (mclone_spec F c) [(0, 2)] rfl rfl rfl (by repeat' (first | exact True.intro | refine ⟨⟨_, _, _, rfl, rfl, rfl, WkO.rfl⟩, ?_⟩ | refine HeapOK.acc rfl rfl ?_ | refine HeapOK.es rfl rfl ?_)) rfl rfl ?_
  refine M.go rfl ?_
  exact M.done (finQ.normal [(0, 0), (1, 1), (2, 2), (3, 3), (4, 4)] rfl rfl rfl Wk.rfl ⟨⟨_, _, _, rfl, rfl, rfl, WkO.rfl⟩, ⟨_, _, _, rfl, rfl, rfl, WkO.rfl⟩, ⟨_, _, _, rfl, rfl, rfl, WkO.row ⟨Wk.rfl, Wk.rfl, Wk.rfl, Wk.nil, trivial⟩⟩, trivial⟩)
noncomputable def lDRd : {F : LF // lowerF Try.prog 36 = some F} := ⟨_, rfl⟩
theorem read0_spec (room : Int) (L : FS) (lc : Nat) (F : FS) (c : Nat) (name : List Nat) (z : Bool) (bs : List Int) (cp : Option Nat) (hf : findP name F = some (fP z bs cp)) (hl : bs.length ≤ 1000000000) : CallS Try.prog base 36 [.c (.ptr 0 0), .c (.p (.str name))] (hD0 room L lc F c) (.tup [.c (.p (fP z bs none)), .c (.p (.bool true))]) (hD0 room L lc F c) := by
  refine CallS.of noNG lDRd.2 rfl (M.start (M.wkH (b0 := 2) rfl rfl (WkO.pmap KD.str) (M.go rfl ?_)))
  refine M.op trivial (SOp.look (a := name) KD.str rfl rfl rfl) ?_
  rw [findK_pv, hf]
  refine M.go rfl ?_
  refine M.use0 trivial (bcl_spec z (u8P bs) cp (by rw [u8P_len]; omega)) rfl rfl rfl ?_
  refine M.go rfl ?_
  exact M.ret (M.go rfl (M.done (finQ.ret [(0, 0), (1, 1), (2, 2)] rfl rfl rfl (Wk.t2 Wk.rfl (Wk.b1 rfl)) ⟨⟨_, _, _, rfl, rfl, rfl, WkO.mapp KD.str⟩, ⟨_, _, _, rfl, rfl, rfl, WkO.rfl⟩, ⟨_, _, _, rfl, rfl, rfl, WkO.rfl⟩, trivial⟩)))
noncomputable def lDMv : {F : LF // lowerF Try.prog 37 = some F} := ⟨_, rfl⟩
theorem move0_spec (room : Int) (L : FS) (lc : Nat) (F : FS) (c : Nat) (name to : List Nat) (hm : CallS Try.prog base 70 [.c (.p (.str to))] ⟨[], 0⟩ (.c (.p (.bool true))) ⟨[], 0⟩) (z : Bool) (old : List Int) (oc : Option Nat) (hold : findP name F = some (fP z old oc)) :
    CallS Try.prog base 37 [.c (.ptr 0 0), .c (.p (.str name)), .c (.p (.str to))] (hD0 room L lc F c) (.c (.p (.int .i64 0))) (hD1 3 room L lc (updP to (fP z old oc) c (delP name F)) (updPC to (fP z old oc) c (delP name F)) (.agg (chX 3 name to (fP true [] none) 0)) []) := by
  refine CallS.of noNG lDMv.2 rfl (M.start (M.go rfl ?_))
  refine M.use trivial (there0_spec room L lc F c name) [(0, 0), (1, 1), (2, 2)] rfl rfl rfl (by repeat' (first | exact True.intro | refine ⟨⟨_, _, _, rfl, rfl, rfl, WkO.rfl⟩, ?_⟩ | refine HeapOK.acc rfl rfl ?_ | refine HeapOK.es rfl rfl ?_)) rfl rfl ?_
  rw [hold]
  refine M.go rfl ?_
  refine M.condB rfl (fun hn => by cases hn) (fun _ => ?_)
  refine M.go rfl ?_
  refine M.use0 trivial hm rfl rfl rfl ?_
  refine M.go rfl ?_
  refine M.wkO (i := 22) (v' := .agg ((chX 3 name to (fP true [] none) 0).map XC.p)) rfl (Wk.of rfl) ?_
  refine M.use trivial (chg0_spec room L lc F c _ _ 3 name to true [] none 0 (do_mv F c name to 0 z old oc hold (fP true [] none) (([] : List Int).length : Int))) [(0, 0), (1, 1), (2, 2)] rfl rfl rfl (by repeat' (first | exact True.intro | refine ⟨⟨_, _, _, rfl, rfl, rfl, WkO.rfl⟩, ?_⟩ | refine HeapOK.acc rfl rfl ?_ | refine HeapOK.es rfl rfl ?_)) rfl rfl ?_
  refine M.go rfl ?_
  exact M.ret (M.go rfl (M.done (finQ.ret [(0, 0), (1, 1), (2, 2), (3, 3)] rfl rfl rfl (by first | exact Wk.rfl | exact Wk.uncap | exact Wk.nil | exact Wk.b1 rfl | exact Wk.t2 Wk.rfl (Wk.b1 rfl)) (by repeat' (first | exact True.intro | refine ⟨⟨_, _, _, rfl, rfl, rfl, WkO.rfl⟩, ?_⟩ | refine HeapOK.acc rfl rfl ?_ | refine HeapOK.es rfl rfl ?_)))))
noncomputable def lDRm : {F : LF // lowerF Try.prog 40 = some F} := ⟨_, rfl⟩
theorem remove1_none (room : Int) (L : FS) (lc : Nat) (F : FS) (c : Nat) (w : PC) (W : List PC) (name : List Nat) (hf : findP name F = none) : CallS Try.prog base 40 [.c (.ptr 0 0), .c (.p (.str name))] (hD1 3 room L lc F c w W) (.c (.p (.int .i64 14))) (hD1 3 room L lc F c w W) := by
  refine CallS.of noNG lDRm.2 rfl (M.start (M.go rfl ?_))
  refine M.use trivial (there1_spec room L lc F c w W name) [(0, 0), (1, 1), (2, 2), (3, 3)] rfl rfl rfl (by repeat' (first | exact True.intro | refine ⟨⟨_, _, _, rfl, rfl, rfl, WkO.rfl⟩, ?_⟩ | refine HeapOK.acc rfl rfl ?_ | refine HeapOK.es rfl rfl ?_)) rfl rfl ?_
  rw [hf]
  refine M.go rfl ?_
  refine M.condB rfl (fun _ => ?_) (fun hn => by cases hn)
  refine M.go rfl ?_
  exact M.ret (M.go rfl (M.done (finQ.ret [(0, 0), (1, 1), (2, 2), (3, 3)] rfl rfl rfl (by first | exact Wk.rfl | exact Wk.uncap | exact Wk.nil | exact Wk.b1 rfl | exact Wk.t2 Wk.rfl (Wk.b1 rfl)) (by repeat' (first | exact True.intro | refine ⟨⟨_, _, _, rfl, rfl, rfl, WkO.rfl⟩, ?_⟩ | refine HeapOK.acc rfl rfl ?_ | refine HeapOK.es rfl rfl ?_)))))
noncomputable def lDWt : {F : LF // lowerF Try.prog 42 = some F} := ⟨_, rfl⟩
theorem waiting1_spec (room : Int) (L : FS) (lc : Nat) (F : FS) (c : Nat) (w : PC) (W : List PC) : CallS Try.prog base 42 [.c (.ptr 0 0)] (hD1 3 room L lc F c w W) (.c (.p (.int .i64 (w :: W).length))) (hD1 3 room L lc F c w W) := by
  refine CallS.of noNG lDWt.2 rfl (M.start (M.go rfl ?_))
  exact M.ret (M.go rfl (M.done (finQ.ret [(0, 0), (1, 1), (2, 2), (3, 3)] rfl rfl rfl (by first | exact Wk.rfl | exact Wk.uncap | exact Wk.nil | exact Wk.b1 rfl | exact Wk.t2 Wk.rfl (Wk.b1 rfl)) (by repeat' (first | exact True.intro | refine ⟨⟨_, _, _, rfl, rfl, rfl, WkO.rfl⟩, ?_⟩ | refine HeapOK.acc rfl rfl ?_ | refine HeapOK.es rfl rfl ?_)))))
end Go.Proofs.Ytjlfojgacnphmaa

namespace Go.Proofs.Ytjlfojgacnphmaa
open Go.RowKit Sim Go Sym
set_option maxRecDepth 100000
set_option linter.unusedVariables false
set_option linter.unusedSimpArgs false
variable {base : Nat}
structure Chg where
  kd : Int
  name : List Nat
  to : List Nat
  z : Bool
  b : List Int
  cb : Option Nat
  n : Int
def Chg.pc (x : Chg) : PC := .agg (chX x.kd x.name x.to (fP x.z x.b x.cb) x.n)
inductive Do (x : Chg) (k : Nat) : FS × Nat → FS × Nat → Prop where
  | app {F c z old oc} (h0 : x.kd = 0) (hk : k ≤ x.b.length) (hb : x.b.length ≤ 100000000) (hf : findP x.name F = some (fP z old oc)) (ho : old.length ≤ 100000000) : Do x k (F, c) (updP x.name (apF (z && (u8P old).isEmpty) old (x.b.take k)) c F, updPC x.name (apF (z && (u8P old).isEmpty) old (x.b.take k)) c F)
  | new {F c} (h0 : x.kd = 0) (hk : k ≤ x.b.length) (hb : x.b.length ≤ 100000000) (hf : findP x.name F = none) : Do x k (F, c) (updP x.name (apF true [] (x.b.take k)) c F, updPC x.name (apF true [] (x.b.take k)) c F)
  | mv {F c z old oc} (h0 : x.kd = 3) (hf : findP x.name F = some (fP z old oc)) : Do x k (F, c) (updP x.to (fP z old oc) c (delP x.name F), updPC x.to (fP z old oc) c (delP x.name F))
theorem Do.spec {x : Chg} {k : Nat} {s t : FS × Nat} (h : Do x k s t) : CallS Try.prog base 66 [.c (.mp 0), .agg ((chX x.kd x.name x.to (fP x.z x.b x.cb) x.n).map XC.p), .c (.p (.int .i64 k))] ⟨[(0, some (fM s.1 s.2))], 1⟩ (.tup []) ⟨[(0, some (fM t.1 t.2))], 1⟩ := by
  cases h with
  | app h0 hk hb hf ho => rw [h0]; exact do_app _ _ _ _ _ _ _ _ hf _ _ _ k hk ho hb
  | new h0 hk hb hf => rw [h0]; exact do_app0 _ _ _ _ _ hf _ _ _ k hk hb
  | mv h0 hf => rw [h0]; exact do_mv _ _ _ _ _ _ _ _ hf _ _
def Cr1 (n torn : Int) (x : Chg) (j : Nat) (s t : FS × Nat) : Prop :=
  if (j : Int) < n then Do x x.b.length s t else if (j : Int) = n ∧ 0 ≤ torn ∧ x.kd = 0 then Do x (min torn.toNat x.b.length) s t else t = s
def CrR (n torn : Int) : List Chg → Nat → FS × Nat → FS × Nat → Prop
  | [], _, s, t => t = s
  | x :: W, j, s, t => ∃ u, Cr1 n torn x j s u ∧ CrR n torn W (j + 1) u t
noncomputable def lCr : {F : LF // lowerF Try.prog 23 = some F} := ⟨_, rfl⟩
def hC (room : Int) (L : FS) (lc : Nat) (F : FS) (c : Nat) (w : PC) (W : List PC) (s : FS × Nat) : HS := ⟨[(5, some (.row [.p (.int .i64 room), .mp 4, .p .nomap, .p (.tz true 0 [] none)] true)), (4, some (fM s.1 s.2)), (3, some (.els 5 (w :: W))), (2, some (fM F c)), (1, some (fM L lc)), (0, some (.row [.p (.int .i64 room), .mp 1, .mp 2, .acc 3 5 (w :: W)] true))], 6⟩
theorem crash_loop (room : Int) (L : FS) (lc : Nat) (F : FS) (c : Nat) (w : PC) (W : List PC) (V : List Chg) (hV : w :: W = V.map Chg.pc) (hl : V.length ≤ 1000000) (n torn : Int) (t : FS × Nat) (Q : QX) (hq : Q (.exit 0) [(7, .c (.ptr 5 0))] (hC room L lc F c w W t)) :
    ∀ (rest pre : List Chg) (s : FS × Nat), V = pre ++ rest → CrR n torn rest pre.length s t → XH Try.prog base lCr.1.n 4 (lCr.1.c.lp 0) [(1, .c (.p (.int .i64 n))), (2, .c (.p (.int .i64 torn))), (7, .c (.ptr 5 0)), (26, .c (.sl 3 0 (W.length + 1) 5 none)), (27, .c (.p (.int .i64 (W.length + 1 : Nat)))), (28, .c (.p (.int .i64 pre.length)))] (hC room L lc F c w W s) Q := by
  have hWl : W.length + 1 = V.length := by have := congrArg List.length hV; simpa using this
  intro rest
  induction rest with
  | nil =>
    intro pre s hp hc
    have hlen : V.length = pre.length := by rw [hp]; simp
    obtain rfl : t = s := hc
    refine M.round (M.go rfl ?_)
    refine M.cond rfl (fun hc => absurd hc (by omega)) (fun _ => ?_)
    refine M.ren [(0, 0), (1, 1), (2, 2), (3, 3), (4, 4), (5, 5)] ?_ trivial rfl (by repeat' (first | exact True.intro | refine ⟨⟨_, _, rfl, rfl, Wk.rfl⟩, ?_⟩ | refine ⟨⟨_, _, accV_ren rfl, rfl, Wk.rfl⟩, ?_⟩ | refine ⟨⟨_, _, accV_ren rfl, rfl, Wk.acc0⟩, ?_⟩ | refine ⟨⟨_, _, rfl, rfl, Wk.uncap⟩, ?_⟩ | refine ⟨⟨_, _, rfl, rfl, Wk.nil⟩, ?_⟩)) (by repeat' (first | exact True.intro | refine ⟨⟨_, _, _, rfl, rfl, rfl, WkO.rfl⟩, ?_⟩ | refine HeapOK.acc rfl rfl ?_ | refine HeapOK.es rfl rfl ?_)) (e' := [(7, .c (.ptr 5 0))]) (h' := hC room L lc F c w W t)
    exact M.exit (M.go rfl (M.done hq))
  | cons x rest ih =>
    intro pre s hp hc
    obtain ⟨u, hu, hc⟩ := hc
    have hlen : V.length = pre.length + (rest.length + 1) := by rw [hp]; simp
    have hw2 : IntKind.i64.wrap ((pre.length : Int) + 1) = ((pre ++ [x]).length : Int) := by rw [wr64 (by omega) (by omega)]; simp
    have ih' := ih (pre ++ [x]) u (by rw [hp]; simp) (by simpa using hc)
    have hel : (w :: W)[pre.length]? = some x.pc := by rw [hV, hp]; simp
    have hlb : (u8P x.b).length = x.b.length := u8P_len x.b
    refine M.round (M.go rfl ?_)
    refine M.cond rfl (fun _ => ?_) (fun hn => absurd (by omega) hn)
    refine M.go rfl ?_
    refine M.op trivial (SOp.iaOn rfl rfl (by omega)) ?_
    refine M.op trivial (SOp.ldnO rfl rfl hel rfl rfl rfl) ?_
    refine M.go rfl ?_
    refine M.cond rfl (fun h1 => ?_) (fun h1 => ?_)
    · rw [Cr1, if_pos h1] at hu
      refine M.go rfl ?_
      refine M.regD (MD.go rfl ?_)
      rw [hlb]
      refine MD.use trivial hu.spec [(0, 4)] rfl rfl rfl (by repeat' (first | exact True.intro | refine ⟨⟨_, _, _, rfl, rfl, rfl, WkO.rfl⟩, ?_⟩ | refine HeapOK.acc rfl rfl ?_ | refine HeapOK.es rfl rfl ?_)) rfl rfl ?_
      refine MD.go rfl ?_
      refine MD.nil mixed (Fnl.nodup rfl) (M.go rfl ?_)
      rw [hw2]
      exact M.again (XH.ren [(0, 0), (1, 1), (2, 2), (3, 3), (4, 4), (5, 5)] ih' rfl (by repeat' (first | exact True.intro | refine ⟨⟨_, _, rfl, rfl, Wk.rfl⟩, ?_⟩ | refine ⟨⟨_, _, accV_ren rfl, rfl, Wk.rfl⟩, ?_⟩ | refine ⟨⟨_, _, accV_ren rfl, rfl, Wk.acc0⟩, ?_⟩ | refine ⟨⟨_, _, rfl, rfl, Wk.uncap⟩, ?_⟩ | refine ⟨⟨_, _, rfl, rfl, Wk.nil⟩, ?_⟩)) (by repeat' (first | exact True.intro | refine ⟨⟨_, _, _, rfl, rfl, rfl, WkO.rfl⟩, ?_⟩ | refine HeapOK.acc rfl rfl ?_ | refine HeapOK.es rfl rfl ?_)))
    · rw [Cr1, if_neg h1] at hu
      refine M.go rfl ?_
      refine M.dec rfl (fun h2 => ?_) (fun h2 => ?_)
      · refine M.go rfl ?_
        refine M.dec rfl (fun h3 => ?_) (fun h3 => ?_)
        · refine M.go rfl ?_
          refine M.cond rfl (fun h4 => ?_) (fun h4 => ?_)
          · rw [if_pos ⟨h2, by omega, h4⟩] at hu
            refine M.go rfl ?_
            refine M.regD (MD.go rfl ?_)
            rw [hlb, show minI torn (x.b.length : Int) = ((min torn.toNat x.b.length : Nat) : Int) by unfold minI; split <;> omega]
            refine MD.use trivial hu.spec [(0, 4)] rfl rfl rfl (by repeat' (first | exact True.intro | refine ⟨⟨_, _, _, rfl, rfl, rfl, WkO.rfl⟩, ?_⟩ | refine HeapOK.acc rfl rfl ?_ | refine HeapOK.es rfl rfl ?_)) rfl rfl ?_
            refine MD.go rfl ?_
            refine MD.nil mixed (Fnl.nodup rfl) (M.go rfl ?_)
            rw [hw2]
            exact M.again (XH.ren [(0, 0), (1, 1), (2, 2), (3, 3), (4, 4), (5, 5)] ih' rfl (by repeat' (first | exact True.intro | refine ⟨⟨_, _, rfl, rfl, Wk.rfl⟩, ?_⟩ | refine ⟨⟨_, _, accV_ren rfl, rfl, Wk.rfl⟩, ?_⟩ | refine ⟨⟨_, _, accV_ren rfl, rfl, Wk.acc0⟩, ?_⟩ | refine ⟨⟨_, _, rfl, rfl, Wk.uncap⟩, ?_⟩ | refine ⟨⟨_, _, rfl, rfl, Wk.nil⟩, ?_⟩)) (by repeat' (first | exact True.intro | refine ⟨⟨_, _, _, rfl, rfl, rfl, WkO.rfl⟩, ?_⟩ | refine HeapOK.acc rfl rfl ?_ | refine HeapOK.es rfl rfl ?_)))
          · rw [if_neg (fun h => h4 h.2.2)] at hu
            subst hu
            refine M.go rfl ?_
            rw [hw2]
            exact M.again (XH.ren [(0, 0), (1, 1), (2, 2), (3, 3), (4, 4), (5, 5)] ih' rfl (by repeat' (first | exact True.intro | refine ⟨⟨_, _, rfl, rfl, Wk.rfl⟩, ?_⟩ | refine ⟨⟨_, _, accV_ren rfl, rfl, Wk.rfl⟩, ?_⟩ | refine ⟨⟨_, _, accV_ren rfl, rfl, Wk.acc0⟩, ?_⟩ | refine ⟨⟨_, _, rfl, rfl, Wk.uncap⟩, ?_⟩ | refine ⟨⟨_, _, rfl, rfl, Wk.nil⟩, ?_⟩)) (by repeat' (first | exact True.intro | refine ⟨⟨_, _, _, rfl, rfl, rfl, WkO.rfl⟩, ?_⟩ | refine HeapOK.acc rfl rfl ?_ | refine HeapOK.es rfl rfl ?_)))
        · rw [if_neg (fun h => h3 h.2.1)] at hu
          subst hu
          refine M.go rfl ?_
          rw [hw2]
          exact M.again (XH.ren [(0, 0), (1, 1), (2, 2), (3, 3), (4, 4), (5, 5)] ih' rfl (by repeat' (first | exact True.intro | refine ⟨⟨_, _, rfl, rfl, Wk.rfl⟩, ?_⟩ | refine ⟨⟨_, _, accV_ren rfl, rfl, Wk.rfl⟩, ?_⟩ | refine ⟨⟨_, _, accV_ren rfl, rfl, Wk.acc0⟩, ?_⟩ | refine ⟨⟨_, _, rfl, rfl, Wk.uncap⟩, ?_⟩ | refine ⟨⟨_, _, rfl, rfl, Wk.nil⟩, ?_⟩)) (by repeat' (first | exact True.intro | refine ⟨⟨_, _, _, rfl, rfl, rfl, WkO.rfl⟩, ?_⟩ | refine HeapOK.acc rfl rfl ?_ | refine HeapOK.es rfl rfl ?_)))
      · rw [if_neg (fun h => h2 h.1)] at hu
        subst hu
        refine M.go rfl ?_
        rw [hw2]
        exact M.again (XH.ren [(0, 0), (1, 1), (2, 2), (3, 3), (4, 4), (5, 5)] ih' rfl (by repeat' (first | exact True.intro | refine ⟨⟨_, _, rfl, rfl, Wk.rfl⟩, ?_⟩ | refine ⟨⟨_, _, accV_ren rfl, rfl, Wk.rfl⟩, ?_⟩ | refine ⟨⟨_, _, accV_ren rfl, rfl, Wk.acc0⟩, ?_⟩ | refine ⟨⟨_, _, rfl, rfl, Wk.uncap⟩, ?_⟩ | refine ⟨⟨_, _, rfl, rfl, Wk.nil⟩, ?_⟩)) (by repeat' (first | exact True.intro | refine ⟨⟨_, _, _, rfl, rfl, rfl, WkO.rfl⟩, ?_⟩ | refine HeapOK.acc rfl rfl ?_ | refine HeapOK.es rfl rfl ?_)))
def hCr (room : Int) (L : FS) (lc : Nat) (F : FS) (c : Nat) (w : PC) (W : List PC) (t : FS × Nat) : HS := ⟨[(6, some (fM t.1 t.2)), (5, some (fM t.1 t.2)), (4, some (.row [.p (.int .i64 room), .mp 5, .mp 6, .p (.tz true 5 [] none)] true)), (3, some (.els 5 (w :: W))), (2, some (fM F c)), (1, some (fM L lc)), (0, some (.row [.p (.int .i64 room), .mp 1, .mp 2, .acc 3 5 (w :: W)] true))], 7⟩
theorem crash1_spec (room : Int) (L : FS) (lc : Nat) (F : FS) (c : Nat) (w : PC) (W : List PC) (V : List Chg) (hV : w :: W = V.map Chg.pc) (hl : V.length ≤ 1000000) (n torn : Int) (t : FS × Nat) (hc : CrR n torn V 0 (L, lc) t) :
    CallS Try.prog base 23 [.c (.ptr 0 0), .c (.p (.int .i64 n)), .c (.p (.int .i64 torn))] (hD1 3 room L lc F c w W) (.c (.ptr 4 0)) (hCr room L lc F c w W t) := by
  refine CallS.of noNG lCr.2 rfl (M.start (M.go rfl ?_))
  refine M.regF (MF.go rfl ?_)
  refine MF.use trivial (mclone_spec L lc) [(0, 1)] rfl rfl rfl (by repeat' (first | exact True.intro | refine ⟨⟨_, _, _, rfl, rfl, rfl, WkO.rfl⟩, ?_⟩ | refine HeapOK.acc rfl rfl ?_ | refine HeapOK.es rfl rfl ?_)) rfl rfl ?_
  refine MF.go rfl ?_
  refine MF.nil mixed (Fnl.nodup rfl) rfl ⟨⟨stepX_ok rfl, trivial⟩, trivial⟩ (M.go rfl ?_)
  refine M.wk (i := 26) (v' := .c (.sl 3 0 (W.length + 1) 5 none)) rfl (Wk.of rfl) ?_
  refine M.loop (XH.ren [(0, 0), (1, 1), (2, 2), (3, 3), (4, 4), (5, 5)] (crash_loop room L lc F c w W V hV hl n torn t _ ?_ V [] (L, lc) rfl hc) rfl (by repeat' (first | exact True.intro | refine ⟨⟨_, _, rfl, rfl, Wk.rfl⟩, ?_⟩ | refine ⟨⟨_, _, accV_ren rfl, rfl, Wk.rfl⟩, ?_⟩ | refine ⟨⟨_, _, accV_ren rfl, rfl, Wk.acc0⟩, ?_⟩ | refine ⟨⟨_, _, rfl, rfl, Wk.uncap⟩, ?_⟩ | refine ⟨⟨_, _, rfl, rfl, Wk.nil⟩, ?_⟩)) (by repeat' (first | exact True.intro | refine ⟨⟨_, _, _, rfl, rfl, rfl, WkO.rfl⟩, ?_⟩ | refine HeapOK.acc rfl rfl ?_ | refine HeapOK.es rfl rfl ?_)))
  refine M.q (M.go rfl ?_)
  refine M.use trivial (mclone_spec t.1 t.2) [(0, 4)] rfl rfl rfl (by repeat' (first | exact True.intro | refine ⟨⟨_, _, _, rfl, rfl, rfl, WkO.rfl⟩, ?_⟩ | refine HeapOK.acc rfl rfl ?_ | refine HeapOK.es rfl rfl ?_)) rfl rfl ?_
  refine M.go rfl ?_
  exact M.ret (M.go rfl (M.done (finQ.ret [(0, 0), (1, 1), (2, 2), (3, 3), (4, 5), (5, 4), (6, 6)] rfl rfl rfl (by first | exact Wk.rfl | exact Wk.uncap | exact Wk.nil | exact Wk.b1 rfl | exact Wk.t2 Wk.rfl (Wk.b1 rfl)) ⟨⟨_, _, _, rfl, rfl, rfl, WkO.rfl⟩, ⟨_, _, _, rfl, rfl, rfl, WkO.rfl⟩, ⟨_, _, _, rfl, rfl, rfl, WkO.row ⟨Wk.rfl, Wk.rfl, Wk.rfl, Wk.nil, trivial⟩⟩, ⟨_, _, _, rfl, rfl, rfl, WkO.rfl⟩, ⟨_, _, _, rfl, rfl, rfl, WkO.rfl⟩, ⟨_, _, _, rfl, rfl, rfl, WkO.rfl⟩, ⟨_, _, _, rfl, rfl, rfl, WkO.rfl⟩, trivial⟩)))
end Go.Proofs.Ytjlfojgacnphmaa
