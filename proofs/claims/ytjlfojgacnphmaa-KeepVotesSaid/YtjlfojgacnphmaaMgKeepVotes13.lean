/- Texts of this claim, several in one: SimN, SB1, SF1, SF2, D1, D2, D3, D4, D5, D16, D6, W3, SB2, W8. -/
import Derived.Test.YtjlfojgacnphmaaMgKeepVotes12
import Derived.Test.YtjlfojgacnphmaaChecked
import Derived.Test.YtjlfojgacnphmaaRows
namespace Go.Proofs.Ytjlfojgacnphmaa
open Go.RowKit Sim

theorem mixed : Try.prog.follows .mixedOrders = true := by kernel_rfl
theorem noNG (f : FuncId) (fn : Func) (h : Try.prog.funcs[f]? = some fn) : (fn.name == "runtime.NumGoroutine") = false := by
  have h1 : Try.prog.funcs.all (fun fn => !(fn.name == "runtime.NumGoroutine")) = true := by kernel_rfl
  have h2 := Array.all_eq_true'.1 h1 fn (Array.mem_of_getElem? h)
  simpa using h2
end Go.Proofs.Ytjlfojgacnphmaa

namespace Go.Proofs.Ytjlfojgacnphmaa
open Go.RowKit Sim Go Sym
set_option maxRecDepth 100000
set_option linter.unusedVariables false
set_option linter.unusedSimpArgs false
variable {base : Nat}
def u8P (l : List Int) : List PC := l.map fun x => .int .u8 x
theorem u8P_len (l : List Int) : (u8P l).length = l.length := by simp [u8P]
theorem u8P_app (l r : List Int) : u8P (l ++ r) = u8P l ++ u8P r := by simp [u8P]
theorem u8P_at (l : List Int) (j : Nat) (h : j < l.length) : (u8P l)[j]? = some (.int .u8 (l.getD j 0)) := by simp [u8P, h]
theorem u8P_take (l : List Int) (n : Nat) : (u8P l).take n = u8P (l.take n) := by simp [u8P, List.map_take]
theorem u8P_drop (l : List Int) (n : Nat) : (u8P l).drop n = u8P (l.drop n) := by simp [u8P, List.map_drop]
section
variable {P : Program} {n k : Nat} {e : Env} {h : HS} {Q : QX} {K : List Fr}
theorem SOp.shl {nk : NK} {x y : LX} {i j : IntKind} {a b : Int} (hx : xev e x = some (.c (.p (.int i a)))) (hy : xev e y = some (.c (.p (.int j b)))) (h0 : 0 ≤ b) : SOp P n (.bin nk .shl x y) e h (.c (.p (.int i (i.wrap (a * 2 ^ (min b.toNat i.bits)))))) h :=
  SOp.bin hx hy (by simp only [binX]; rw [if_neg (by omega)])
theorem SOp.shr {nk : NK} {x y : LX} {i j : IntKind} {a b : Int} (hx : xev e x = some (.c (.p (.int i a)))) (hy : xev e y = some (.c (.p (.int j b)))) (h0 : 0 ≤ b) : SOp P n (.bin nk .shr x y) e h (.c (.p (.int i (a.fdiv (2 ^ (min b.toNat i.bits)))))) h :=
  SOp.bin hx hy (by simp only [binX]; rw [if_neg (by omega)])
theorem SOp.appAn {s bytes b : Nat} {x y : LX} {v : XC} {ex : List PC} (hx : xev e x = some (.c (.acc b s ex))) (hy : xev e y = some (.c v)) (hel : ElsX h s v []) : SOp P n (.app s bytes x y) e h (.c (.acc b s ex)) h := by
  cases ex with
  | nil => exact step_app hx hy hel (fun _ _ => by simp [XC.sc, XV.sv])
  | cons x0 ex => exact step_app hx hy hel (fun _ _ => by simp [XC.sc, XV.sv])
end
theorem zz_bits (n : Int) (h0 : -9223372036854775808 ≤ n) (h1 : n < 9223372036854775808) :
    bits .xor .u64 (IntKind.u64.wrap (IntKind.u64.wrap n * 2 ^ (min (1 : Int).toNat IntKind.u64.bits))) (IntKind.u64.wrap (n.fdiv (2 ^ (min (63 : Int).toNat IntKind.i64.bits)))) = (zz n : Int) := by
  have e1 : (2 : Int) ^ (min (1 : Int).toNat IntKind.u64.bits) = 2 := by decide
  have e2 : (2 : Int) ^ (min (63 : Int).toNat IntKind.i64.bits) = 9223372036854775808 := by decide
  rw [e1, e2, Int.fdiv_eq_ediv_of_nonneg _ (by omega)]
  simp only [IntKind.wrap_u64]
  rw [u64_xor _ _ (by omega) (by omega) (by omega) (by omega)]
  by_cases hn : 0 ≤ n
  · have e1 : (n % 18446744073709551616 * 2 % 18446744073709551616).toNat = (2 * n).toNat := by omega
    have e2 : (n / 9223372036854775808 % 18446744073709551616).toNat = 0 := by omega
    rw [e1, e2, Nat.xor_zero, zz, if_pos hn]
  · have e1 : (n % 18446744073709551616 * 2 % 18446744073709551616).toNat = (2 * n + 18446744073709551616).toNat := by omega
    have e2 : (n / 9223372036854775808 % 18446744073709551616).toNat = 2 ^ 64 - 1 := by omega
    rw [e1, e2, xor_ones _ (by omega), zz, if_neg hn]
    omega
theorem or128_bits (m : Nat) : bits .or .u8 (IntKind.u8.wrap (m : Int)) 128 = ((m % 128 + 128 : Nat) : Int) := by
  have e : (IntKind.u8.wrap (m : Int)) = ((m % 256 : Nat) : Int) := by
    have : IntKind.u8.wrap (m : Int) = (m : Int) % 256 := by
      have hs : IntKind.u8.signed = false := rfl
      have hb : IntKind.u8.bits = 8 := rfl
      unfold IntKind.wrap
      simp only [hs, hb, Bool.false_and]
      simp
    rw [this]; omega
  rw [e, show (128 : Int) = ((128 : Nat) : Int) from rfl, u8_or_nat _ _ (by omega) (by omega)]
  congr 1
  apply Nat.eq_of_testBit_eq
  intro i
  rw [Nat.testBit_or]
  have h1 : m % 128 + 128 = 2 ^ 7 * 1 + m % 128 := by omega
  rw [h1, show (256 : Nat) = 2 ^ 8 from rfl, Nat.testBit_mod_two_pow, Nat.testBit_two_pow_mul_add (a := 1) (b := m % 128) (i := 7) (by omega), show (128 : Nat) = 2 ^ 7 from rfl, Nat.testBit_mod_two_pow, Nat.testBit_two_pow]
  by_cases hi : i < 7
  · simp [hi, show i < 8 by omega, show ¬ 7 = i by omega]
  · by_cases h7 : i = 7
    · subst h7; simp
    · have : 0 < i - 7 := by omega
      simp [hi, show ¬ i < 8 by omega, show ¬ 7 = i by omega]
      exact Nat.testBit_lt_two_pow (Nat.lt_of_lt_of_le (show 1 < 2 ^ 1 by omega) (Nat.pow_le_pow_right (by omega) this))
theorem wr_u8 {n : Int} (h : 0 ≤ n) (h' : n < 256) : IntKind.u8.wrap n = n := by
  have hs : IntKind.u8.signed = false := rfl
  have hb : IntKind.u8.bits = 8 := rfl
  unfold IntKind.wrap
  simp only [hs, hb, Bool.false_and]
  simp
  omega
theorem shr7 (m : Nat) : ((m : Int).fdiv (2 ^ (min (7 : Int).toNat IntKind.u64.bits))) = ((m / 128 : Nat) : Int) := by
  have e1 : (2 : Int) ^ (min (7 : Int).toNat IntKind.u64.bits) = 128 := by decide
  rw [e1, Int.fdiv_eq_ediv_of_nonneg _ (by omega)]; omega
def hA (a : Nat) (bs : List Int) : HS := ⟨[(a, accO 1 (u8P bs)), (0, some (.row [.acc a 1 (u8P bs)] true))], a + 1⟩
def hW (a : Nat) (bs : List Int) : HS := ⟨[(a, some (.els 1 (u8P bs))), (0, some (.row [.acc a 1 (u8P bs)] true))], a + 1⟩
def hW0 : HS := ⟨[(0, some (.row [.p (.tz true 1 [] none)] true))], 1⟩
theorem accO_u8 {bs : List Int} (h : bs ≠ []) : accO 1 (u8P bs) = some (.els 1 (u8P bs)) := by
  cases bs with
  | nil => exact absurd rfl h
  | cons x l => rfl
theorem hW_eq {a : Nat} {bs : List Int} (h : bs ≠ []) : hW a bs = hA a bs := by rw [hA, accO_u8 h]; rfl
noncomputable def lWn : {F : LF // lowerF Try.prog 101 = some F} := ⟨_, rfl⟩
theorem wnum_loop (Q : QX) : ∀ (m : Nat) (bs : List Int), (∀ (u : Nat) (bs' : List Int), u ≤ 127 → bs' ++ [(u : Int)] = bs ++ uvar m → Q (.exit 0) [(0, .c (.ptr 0 0)), (4, .c (.p (.int .u64 u)))] (hA 2 bs')) → (uvar m).length + bs.length ≤ 1000000000020 →
    XH Try.prog base lWn.1.n 2 (lWn.1.c.lp 0) [(0, .c (.ptr 0 0)), (4, .c (.p (.int .u64 m)))] (hA 2 bs) Q := by
  intro m
  induction m using Nat.strongRecOn with
  | ind m ih =>
    intro bs hq hu
    refine M.round (M.go rfl ?_)
    refine M.cond rfl (fun hc => ?_) (fun hc => ?_)
    · have hm : 127 < m := by omega
      rw [uvar_big hm] at hq hu
      simp only [List.length_cons] at hu
      have hp := uvar_pos (m / 128)
      refine M.go rfl ?_
      rw [or128_bits]
      refine M.acc trivial rfl rfl rfl (.own rfl rfl) (by simp) (by rw [u8P_len]; simp; omega) ?_
      refine M.go rfl ?_
      refine M.op trivial (SOp.shr rfl rfl (by omega)) ?_
      rw [shr7]
      refine M.go rfl ?_
      have ih' := ih (m / 128) (by omega) (bs ++ [((m % 128 + 128 : Nat) : Int)]) (fun u bs' h1 h2 => hq u bs' h1 (by rw [h2]; simp)) (by simp; omega)
      refine M.again (XH.ren [(0, 0), (1, 1), (2, 4)] ih' rfl (by repeat' (first | exact True.intro | refine evC rfl rfl Wk.rfl ?_ | refine evC (accV_ren rfl) rfl Wk.rfl ?_ | refine evC (accV_ren rfl) rfl Wk.acc0 ?_ | refine evC rfl rfl Wk.uncap ?_ | refine evC rfl rfl Wk.nil ?_)) ?_)
      unfold hA
      rw [u8P_app]
      exact (by repeat' (first | exact True.intro | refine hpC rfl rfl rfl ?_ | refine ⟨⟨_, _, _, rfl, rfl, rfl, @WkO.rfl _⟩, ?_⟩ | refine HeapOK.acc rfl rfl ?_))
    · have hm : m ≤ 127 := by omega
      rw [uvar_small hm] at hq
      refine M.ren [(0, 0), (1, 1), (2, 2)] ?_ trivial rfl (by repeat' (first | exact True.intro | refine evC rfl rfl Wk.rfl ?_ | refine evC (accV_ren rfl) rfl Wk.rfl ?_ | refine evC (accV_ren rfl) rfl Wk.acc0 ?_ | refine evC rfl rfl Wk.uncap ?_ | refine evC rfl rfl Wk.nil ?_)) (by repeat' (first | exact True.intro | refine hpC rfl rfl rfl ?_ | refine ⟨⟨_, _, _, rfl, rfl, rfl, @WkO.rfl _⟩, ?_⟩ | refine HeapOK.acc rfl rfl ?_)) (e' := [(0, .c (.ptr 0 0)), (4, .c (.p (.int .u64 m)))]) (h' := hA 2 bs)
      exact M.exit (M.go rfl (M.done (hq m bs hm rfl)))
theorem wnum_loop0 (Q : QX) : ∀ (m : Nat) (bs : List Int), (∀ (u : Nat) (bs' : List Int), u ≤ 127 → bs' ++ [(u : Int)] = bs ++ uvar m → Q (.exit 0) [(0, .c (.ptr 0 0)), (4, .c (.p (.int .u64 u)))] (hA 2 bs')) → (uvar m).length + bs.length ≤ 1000000000020 →
    XH Try.prog base lWn.1.n 1 (lWn.1.c.lp 0) [(0, .c (.ptr 0 0)), (4, .c (.p (.int .u64 m)))] (hA 2 bs) Q := by
  intro m
  induction m using Nat.strongRecOn with
  | ind m ih =>
    intro bs hq hu
    refine M.round (M.go rfl ?_)
    refine M.cond rfl (fun hc => ?_) (fun hc => ?_)
    · have hm : 127 < m := by omega
      rw [uvar_big hm] at hq hu
      simp only [List.length_cons] at hu
      have hp := uvar_pos (m / 128)
      refine M.go rfl ?_
      rw [or128_bits]
      refine M.acc trivial rfl rfl rfl (.own rfl rfl) (by simp) (by rw [u8P_len]; simp; omega) ?_
      refine M.go rfl ?_
      refine M.op trivial (SOp.shr rfl rfl (by omega)) ?_
      rw [shr7]
      refine M.go rfl ?_
      have ih' := ih (m / 128) (by omega) (bs ++ [((m % 128 + 128 : Nat) : Int)]) (fun u bs' h1 h2 => hq u bs' h1 (by rw [h2]; simp)) (by simp; omega)
      refine M.again (XH.ren [(0, 0), (1, 1), (2, 4)] ih' rfl (by repeat' (first | exact True.intro | refine evC rfl rfl Wk.rfl ?_ | refine evC (accV_ren rfl) rfl Wk.rfl ?_ | refine evC (accV_ren rfl) rfl Wk.acc0 ?_ | refine evC rfl rfl Wk.uncap ?_ | refine evC rfl rfl Wk.nil ?_)) ?_)
      unfold hA
      rw [u8P_app]
      exact (by repeat' (first | exact True.intro | refine hpC rfl rfl rfl ?_ | refine ⟨⟨_, _, _, rfl, rfl, rfl, @WkO.rfl _⟩, ?_⟩ | refine HeapOK.acc rfl rfl ?_))
    · have hm : m ≤ 127 := by omega
      rw [uvar_small hm] at hq
      refine M.ren [(0, 0), (1, 1), (2, 2)] ?_ trivial rfl (by repeat' (first | exact True.intro | refine evC rfl rfl Wk.rfl ?_ | refine evC (accV_ren rfl) rfl Wk.rfl ?_ | refine evC (accV_ren rfl) rfl Wk.acc0 ?_ | refine evC rfl rfl Wk.uncap ?_ | refine evC rfl rfl Wk.nil ?_)) (by repeat' (first | exact True.intro | refine hpC rfl rfl rfl ?_ | refine ⟨⟨_, _, _, rfl, rfl, rfl, @WkO.rfl _⟩, ?_⟩ | refine HeapOK.acc rfl rfl ?_)) (e' := [(0, .c (.ptr 0 0)), (4, .c (.p (.int .u64 m)))]) (h' := hA 2 bs)
      exact M.exit (M.go rfl (M.done (hq m bs hm rfl)))
theorem wnum_spec (bs : List Int) (n : Int) (hb : bs.length ≤ 1000000000000) (hn : InI64 n) : CallS Try.prog base 101 [.c (.ptr 0 0), .c (.p (.int .i64 n))] (hA 1 bs) (.tup []) (hA 2 (bs ++ numB n)) := by
  have hlen := numB_len hn.1 hn.2
  have hnB : numB n = uvar (zz n) := rfl
  refine CallS.of noNG lWn.2 rfl (M.start (M.go rfl ?_))
  refine M.op trivial (SOp.shl rfl rfl (by omega)) ?_
  refine M.go rfl ?_
  refine M.op trivial (SOp.shr rfl rfl (by omega)) ?_
  refine M.go rfl ?_
  rw [zz_bits n hn.1 hn.2]
  obtain ⟨m, hm⟩ : ∃ m, m = zz n := ⟨_, rfl⟩
  rw [hnB, ← hm] at hlen ⊢
  refine M.loop (M.round (M.go rfl ?_))
  refine M.cond rfl (fun hc => ?_) (fun hc => ?_)
  · have hm : 127 < m := by omega
    rw [uvar_big hm] at hlen ⊢
    simp only [List.length_cons] at hlen
    refine M.go rfl ?_
    rw [or128_bits]
    refine M.acc trivial rfl rfl rfl (.own rfl rfl) (by simp) (by rw [u8P_len]; simp; omega) ?_
    refine M.go rfl ?_
    refine M.op trivial (SOp.shr rfl rfl (by omega)) ?_
    rw [shr7]
    refine M.go rfl ?_
    refine M.again (XH.ren [(0, 0), (1, 1), (2, 3)] (wnum_loop _ (m / 128) (bs ++ [((m % 128 + 128 : Nat) : Int)]) (fun u bs' h1 h2 => ?_) (by simp; omega)) rfl (by repeat' (first | exact True.intro | refine evC rfl rfl Wk.rfl ?_ | refine evC (accV_ren rfl) rfl Wk.rfl ?_ | refine evC (accV_ren rfl) rfl Wk.acc0 ?_ | refine evC rfl rfl Wk.uncap ?_ | refine evC rfl rfl Wk.nil ?_)) ?_)
    · have hl2 := congrArg List.length h2
      simp at hl2
      refine M.q (M.go rfl (M.done (M.q (M.go rfl ?_))))
      rw [wr_u8 (by omega) (by omega)]
      refine M.acc trivial rfl rfl rfl (.own rfl rfl) (by simp) (by rw [u8P_len]; simp; omega) ?_
      refine M.go rfl ?_
      refine M.done (finQ.normal [(0, 0), (1, 1), (2, 4)] rfl rfl rfl Wk.rfl ?_)
      have e1 : bs ++ ((m % 128 + 128 : Nat) : Int) :: uvar (m / 128) = bs' ++ [(u : Int)] := by rw [h2]; simp
      rw [e1]
      unfold hA
      rw [u8P_app]
      exact (by repeat' (first | exact True.intro | refine hpC rfl rfl rfl ?_ | refine ⟨⟨_, _, _, rfl, rfl, rfl, @WkO.rfl _⟩, ?_⟩ | refine HeapOK.acc rfl rfl ?_))
    · unfold hA
      rw [u8P_app]
      exact (by repeat' (first | exact True.intro | refine hpC rfl rfl rfl ?_ | refine ⟨⟨_, _, _, rfl, rfl, rfl, @WkO.rfl _⟩, ?_⟩ | refine HeapOK.acc rfl rfl ?_))
  · have hm : m ≤ 127 := by omega
    rw [uvar_small hm]
    refine M.exit (M.go rfl (M.done (M.q (M.go rfl ?_))))
    rw [wr_u8 (by omega) (by omega)]
    refine M.acc trivial rfl rfl rfl (.own rfl rfl) (by simp) (by rw [u8P_len]; simp; omega) ?_
    refine M.go rfl ?_
    refine M.done (finQ.normal [(0, 0), (1, 1), (2, 3)] rfl rfl rfl Wk.rfl ?_)
    unfold hA
    rw [u8P_app]
    exact (by repeat' (first | exact True.intro | refine hpC rfl rfl rfl ?_ | refine ⟨⟨_, _, _, rfl, rfl, rfl, @WkO.rfl _⟩, ?_⟩ | refine HeapOK.acc rfl rfl ?_))
theorem wnum0_spec (n : Int) (hn : InI64 n) : CallS Try.prog base 101 [.c (.ptr 0 0), .c (.p (.int .i64 n))] hW0 (.tup []) (hW 1 (numB n)) := by
  have hlen := numB_len hn.1 hn.2
  have hnB : numB n = uvar (zz n) := rfl
  rw [hW_eq (by intro e; have := numB_pos n; rw [e] at this; simp at this)]
  obtain ⟨bs, hbs⟩ : ∃ bs : List Int, bs = [] := ⟨_, rfl⟩
  have hb : bs.length ≤ 1000000000000 := by rw [hbs]; simp
  rw [show numB n = bs ++ numB n by rw [hbs]; rfl]
  refine CallS.of noNG lWn.2 rfl (M.start ?_)
  refine M.wkH (b0 := 0) (o' := .row [.acc 1 1 (u8P bs)] true) rfl rfl (WkO.row ⟨by rw [hbs]; exact Wk.acc0, trivial⟩) ?_
  refine M.forgetNC (h' := hA 1 bs) (fun b o hb2 => ?_) (Nat.le_succ _) ?_
  · rw [hbs] at hb2 ⊢
    simp only [hA, HS.get, look_cons, u8P, accO, List.map_nil, HS.put, hW0, Sym.look] at hb2 ⊢
    cases h1 : Nat.beq 1 b <;> cases h2 : Nat.beq 0 b <;> simp_all
  refine M.go rfl ?_
  refine M.op trivial (SOp.shl rfl rfl (by omega)) ?_
  refine M.go rfl ?_
  refine M.op trivial (SOp.shr rfl rfl (by omega)) ?_
  refine M.go rfl ?_
  rw [zz_bits n hn.1 hn.2]
  obtain ⟨m, hm⟩ : ∃ m, m = zz n := ⟨_, rfl⟩
  rw [hnB, ← hm] at hlen ⊢
  refine M.loop (M.round (M.go rfl ?_))
  refine M.cond rfl (fun hc => ?_) (fun hc => ?_)
  · have hm : 127 < m := by omega
    rw [uvar_big hm] at hlen ⊢
    simp only [List.length_cons] at hlen
    refine M.go rfl ?_
    rw [or128_bits]
    refine M.acc trivial rfl rfl rfl (.own rfl rfl) (by simp) (by rw [u8P_len]; simp; omega) ?_
    refine M.go rfl ?_
    refine M.op trivial (SOp.shr rfl rfl (by omega)) ?_
    rw [shr7]
    refine M.go rfl ?_
    refine M.again (XH.ren [(0, 0), (1, 1), (2, 3)] (wnum_loop0 _ (m / 128) (bs ++ [((m % 128 + 128 : Nat) : Int)]) (fun u bs' h1 h2 => ?_) (by simp; omega)) rfl (by repeat' (first | exact True.intro | refine evC rfl rfl Wk.rfl ?_ | refine evC (accV_ren rfl) rfl Wk.rfl ?_ | refine evC (accV_ren rfl) rfl Wk.acc0 ?_ | refine evC rfl rfl Wk.uncap ?_ | refine evC rfl rfl Wk.nil ?_)) ?_)
    · have hl2 := congrArg List.length h2
      simp at hl2
      refine M.q (M.go rfl (M.done (M.q (M.go rfl ?_))))
      rw [wr_u8 (by omega) (by omega)]
      refine M.acc trivial rfl rfl rfl (.own rfl rfl) (by simp) (by rw [u8P_len]; simp; omega) ?_
      refine M.go rfl ?_
      refine M.done (finQ.normal [(0, 0), (1, 4)] rfl rfl rfl Wk.rfl ?_)
      have e1 : bs ++ ((m % 128 + 128 : Nat) : Int) :: uvar (m / 128) = bs' ++ [(u : Int)] := by rw [h2]; simp
      rw [e1]
      unfold hA
      rw [u8P_app]
      exact (by repeat' (first | exact True.intro | refine hpC rfl rfl rfl ?_ | refine ⟨⟨_, _, _, rfl, rfl, rfl, @WkO.rfl _⟩, ?_⟩ | refine HeapOK.acc rfl rfl ?_))
    · unfold hA
      rw [u8P_app]
      exact (by repeat' (first | exact True.intro | refine hpC rfl rfl rfl ?_ | refine ⟨⟨_, _, _, rfl, rfl, rfl, @WkO.rfl _⟩, ?_⟩ | refine HeapOK.acc rfl rfl ?_))
  · have hm : m ≤ 127 := by omega
    rw [uvar_small hm]
    refine M.exit (M.go rfl (M.done (M.q (M.go rfl ?_))))
    rw [wr_u8 (by omega) (by omega)]
    refine M.acc trivial rfl rfl rfl (.own rfl rfl) (by simp) (by rw [u8P_len]; simp; omega) ?_
    refine M.go rfl ?_
    refine M.done (finQ.normal [(0, 0), (1, 3)] rfl rfl rfl Wk.rfl ?_)
    unfold hA
    rw [u8P_app]
    exact (by repeat' (first | exact True.intro | refine hpC rfl rfl rfl ?_ | refine ⟨⟨_, _, _, rfl, rfl, rfl, @WkO.rfl _⟩, ?_⟩ | refine HeapOK.acc rfl rfl ?_))
theorem wnum_spec' (bs : List Int) (n : Int) (hne : bs ≠ []) (hb : bs.length ≤ 1000000000000) (hn : InI64 n) : CallS Try.prog base 101 [.c (.ptr 0 0), .c (.p (.int .i64 n))] (hW 1 bs) (.tup []) (hW 2 (bs ++ numB n)) := by
  rw [hW_eq hne, hW_eq (by simp [hne])]
  exact wnum_spec bs n hb hn
noncomputable def lWt : {F : LF // lowerF Try.prog 125 = some F} := ⟨_, rfl⟩
theorem wtext_spec (bs : List Int) (z : Bool) (c : Option Nat) (t : List Int) (hne : bs ≠ []) (hb : bs.length ≤ 1000000000000) (ht : t.length ≤ 1000000000000) : CallS Try.prog base 125 [.c (.ptr 0 0), .c (.p (.tz z 1 (u8P t) c))] (hW 1 bs) (.tup []) (hW 2 (bs ++ textB t)) := by
  refine CallS.of noNG lWt.2 rfl (M.start (M.go rfl ?_))
  rw [u8P_len]
  have hlen : (numB (t.length : Int)).length ≤ 10 := numB_len (by omega) (by omega)
  refine M.use trivial (wnum_spec' bs t.length hne hb ⟨by omega, by omega⟩) [(0, 0), (1, 1)] rfl rfl rfl (by repeat' (first | exact True.intro | refine hpC rfl rfl rfl ?_ | refine ⟨⟨_, _, _, rfl, rfl, rfl, @WkO.rfl _⟩, ?_⟩ | refine HeapOK.acc rfl rfl ?_)) rfl rfl ?_
  refine M.go rfl ?_
  obtain ⟨cs, hcs⟩ : ∃ cs, cs = bs ++ numB (t.length : Int) := ⟨_, rfl⟩
  have hcn : cs ≠ [] := by rw [hcs]; simp [hne]
  have hcl : cs.length ≤ 1000000000010 := by rw [hcs]; simp; omega
  rw [show bs ++ textB t = cs ++ t by rw [hcs]; simp [textB]]
  rw [← hcs, hW_eq (bs := cs ++ t) (by simp [hcn])]
  cases t with
  | nil =>
    refine M.op trivial (SOp.appAn rfl rfl .tz) ?_
    refine M.go rfl ?_
    refine M.done (finQ.normal [(0, 0), (1, 1), (2, 2)] rfl rfl rfl Wk.rfl ?_)
    unfold hA
    rw [List.append_nil, accO_u8 hcn]
    exact (by repeat' (first | exact True.intro | refine hpC rfl rfl rfl ?_ | refine ⟨⟨_, _, _, rfl, rfl, rfl, @WkO.rfl _⟩, ?_⟩ | refine HeapOK.acc rfl rfl ?_))
  | cons x t =>
    refine M.acc trivial rfl (by rw [accO_u8 hcn]; rfl) rfl .tz (by simp [u8P]) (by rw [u8P_len, u8P_len]; simp at ht ⊢; omega) ?_
    refine M.go rfl ?_
    refine M.done (finQ.normal [(0, 0), (1, 1), (2, 3)] rfl rfl rfl Wk.rfl ?_)
    unfold hA
    rw [u8P_app]
    exact (by repeat' (first | exact True.intro | refine hpC rfl rfl rfl ?_ | refine ⟨⟨_, _, _, rfl, rfl, rfl, @WkO.rfl _⟩, ?_⟩ | refine HeapOK.acc rfl rfl ?_))
noncomputable def lWf : {F : LF // lowerF Try.prog 114 = some F} := ⟨_, rfl⟩
theorem wflag_spec (bs : List Int) (f : Bool) (hne : bs ≠ []) (hb : bs.length ≤ 1000000000000) : CallS Try.prog base 114 [.c (.ptr 0 0), .c (.p (.bs f))] (hW 1 bs) (.tup []) (hW 2 (bs ++ flagB f)) := by
  rw [hW_eq hne, hW_eq (by simp [hne])]
  refine CallS.of noNG lWf.2 rfl (M.start (M.go rfl ?_))
  refine M.condB rfl (fun h => ?_) (fun h => ?_)
  all_goals
    subst h
    refine M.go rfl ?_
    refine M.acc trivial rfl rfl rfl (.own rfl rfl) (by simp) (by rw [u8P_len]; simp; omega) ?_
    refine M.go rfl ?_
    refine M.done (finQ.normal [(0, 0), (1, 1), (2, 3)] rfl rfl rfl Wk.rfl ?_)
    unfold hA
    rw [u8P_app]
    exact (by repeat' (first | exact True.intro | refine hpC rfl rfl rfl ?_ | refine ⟨⟨_, _, _, rfl, rfl, rfl, @WkO.rfl _⟩, ?_⟩ | refine HeapOK.acc rfl rfl ?_))
noncomputable def lBc1 : {F : LF // lowerF Try.prog 67 = some F} := ⟨_, rfl⟩
theorem bcl_spec (z : Bool) (el : List PC) (c : Option Nat) (hl : el.length ≤ 1000000000000) : CallS Try.prog base 67 [.c (.p (.tz z 1 el c))] ⟨[], 0⟩ (.c (.p (.tz z 1 el none))) ⟨[], 0⟩ := by
  refine CallS.of noNG lBc1.2 rfl (M.start (M.go rfl ?_))
  refine M.condB rfl (fun hc => ?_) (fun hc => ?_)
  · refine M.go rfl ?_
    obtain ⟨rfl, rfl⟩ : z = true ∧ el = [] := by simpa using hc
    refine M.ren [] ?_ trivial rfl (by repeat' (first | exact True.intro | refine evC rfl rfl Wk.rfl ?_ | refine evC (accV_ren rfl) rfl Wk.rfl ?_ | refine evC (accV_ren rfl) rfl Wk.acc0 ?_ | refine evC rfl rfl Wk.uncap ?_ | refine evC rfl rfl Wk.nil ?_)) (by repeat' (first | exact True.intro | refine hpC rfl rfl rfl ?_ | refine ⟨⟨_, _, _, rfl, rfl, rfl, @WkO.rfl _⟩, ?_⟩ | refine HeapOK.acc rfl rfl ?_)) (e' := [(2, .c (.p (.tz true 1 [] none)))]) (h' := ⟨[], 0⟩)
    exact M.ret (M.go rfl (M.done (finQ.ret [] rfl rfl rfl (by first | exact Wk.rfl | exact Wk.uncap | exact Wk.nil | exact Wk.b1 rfl | exact Wk.t2 Wk.rfl (Wk.b1 rfl)) (by repeat' (first | exact True.intro | refine hpC rfl rfl rfl ?_ | refine ⟨⟨_, _, _, rfl, rfl, rfl, @WkO.rfl _⟩, ?_⟩ | refine HeapOK.acc rfl rfl ?_)))))
  · refine M.go rfl ?_
    by_cases h0 : el = []
    · subst h0
      obtain rfl : z = false := by simpa using hc
      refine M.op trivial (SOp.app0 rfl rfl .tz (.inl ⟨_, _, _, _, _, rfl⟩)) ?_
      refine M.go rfl ?_
      refine M.freezeN (i := 2) rfl rfl rfl ?_
      refine M.ren [] ?_ trivial rfl (by repeat' (first | exact True.intro | refine evC rfl rfl Wk.rfl ?_ | refine evC (accV_ren rfl) rfl Wk.rfl ?_ | refine evC (accV_ren rfl) rfl Wk.acc0 ?_ | refine evC rfl rfl Wk.uncap ?_ | refine evC rfl rfl Wk.nil ?_)) (by repeat' (first | exact True.intro | refine hpC rfl rfl rfl ?_ | refine ⟨⟨_, _, _, rfl, rfl, rfl, @WkO.rfl _⟩, ?_⟩ | refine HeapOK.acc rfl rfl ?_)) (e' := [(2, .c (.p (.tz false 1 [] none)))]) (h' := ⟨[], 0⟩)
      exact M.ret (M.go rfl (M.done (finQ.ret [] rfl rfl rfl (by first | exact Wk.rfl | exact Wk.uncap | exact Wk.nil | exact Wk.b1 rfl | exact Wk.t2 Wk.rfl (Wk.b1 rfl)) (by repeat' (first | exact True.intro | refine hpC rfl rfl rfl ?_ | refine ⟨⟨_, _, _, rfl, rfl, rfl, @WkO.rfl _⟩, ?_⟩ | refine HeapOK.acc rfl rfl ?_)))))
    · refine M.op trivial (SOp.appF (ex := []) rfl rfl rfl (by have := List.length_pos_iff.2 h0; simp; omega) rfl .tz h0 (by simp; omega)) ?_
      refine M.go rfl ?_
      refine M.freezeN (i := 2) rfl rfl (by simp) ?_
      refine M.ren [] ?_ trivial rfl ⟨⟨_, _, rfl, rfl, Wk.some h0⟩, trivial⟩ (by repeat' (first | exact True.intro | refine hpC rfl rfl rfl ?_ | refine ⟨⟨_, _, _, rfl, rfl, rfl, @WkO.rfl _⟩, ?_⟩ | refine HeapOK.acc rfl rfl ?_)) (e' := [(2, .c (.p (.tz z 1 el none)))]) (h' := ⟨[], 0⟩)
      exact M.ret (M.go rfl (M.done (finQ.ret [] rfl rfl rfl (by first | exact Wk.rfl | exact Wk.uncap | exact Wk.nil | exact Wk.b1 rfl | exact Wk.t2 Wk.rfl (Wk.b1 rfl)) (by repeat' (first | exact True.intro | refine hpC rfl rfl rfl ?_ | refine ⟨⟨_, _, _, rfl, rfl, rfl, @WkO.rfl _⟩, ?_⟩ | refine HeapOK.acc rfl rfl ?_)))))
noncomputable def lWb : {F : LF // lowerF Try.prog 102 = some F} := ⟨_, rfl⟩
theorem wbytes_spec (bs : List Int) (hne : bs ≠ []) (hb : bs.length ≤ 1000000000000) : CallS Try.prog base 102 [.c (.ptr 0 0)] (hW 1 bs) (.c (.p (.tz true 1 (u8P bs) none))) ⟨[], 2⟩ := by
  rw [hW_eq hne]
  refine CallS.of noNG lWb.2 rfl (M.start ?_)
  refine M.accFR (b0 := 0) (o := 0) (b := 1) rfl rfl rfl rfl rfl ?_
  refine M.go rfl ?_
  refine M.use0 trivial (bcl_spec true (u8P bs) none (by rw [u8P_len]; exact hb)) rfl rfl rfl ?_
  refine M.go rfl ?_
  exact M.ret (M.go rfl (M.done (finQ.ret [(0, 0), (1, 1)] rfl rfl rfl Wk.rfl trivial)))
end Go.Proofs.Ytjlfojgacnphmaa

namespace Go.Proofs.Ytjlfojgacnphmaa
open Go.RowKit Sim Go Sym
set_option maxRecDepth 100000
set_option linter.unusedVariables false
set_option linter.unusedSimpArgs false
variable {base : Nat}
theorem fshr {k : IntKind} {s : Int} {d : Nat} (m : Nat) (h : (2 : Int) ^ (min s.toNat k.bits) = (d : Int)) : (m : Int).fdiv (2 ^ (min s.toNat k.bits)) = ((m / d : Nat) : Int) := by
  rw [h, Int.fdiv_eq_ediv_of_nonneg _ (by omega)]; rfl
theorem wu32 (n : Int) : IntKind.u32.wrap n = n % 4294967296 := by
  have hs : IntKind.u32.signed = false := rfl
  have hb : IntKind.u32.bits = 32 := rfl
  unfold IntKind.wrap
  simp only [hs, hb, Bool.false_and]
  simp
theorem wu8 (n : Int) : IntKind.u8.wrap n = n % 256 := by
  have hs : IntKind.u8.signed = false := rfl
  have hb : IntKind.u8.bits = 8 := rfl
  unfold IntKind.wrap
  simp only [hs, hb, Bool.false_and]
  simp
theorem bits_stepF (x : Nat) (h : x < 4294967296) : bits .xor .u32 ((x / 2 : Nat) : Int) (bits .and .u32 3988292384 (IntKind.u32.wrap (0 - bits .and .u32 (x : Int) 1))) = ((step1 x : Nat) : Int) := by
  rw [wu32, Int.zero_sub, ← bits_step x h]; rfl
theorem wu32n {n : Int} (h : 0 ≤ n) (h' : n < 4294967296) : IntKind.u32.wrap n = n := by rw [wu32]; omega
theorem getD_app0 (pre : List Int) (c : Int) (rest : List Int) : (pre ++ c :: rest).getD pre.length 0 = c := by simp [List.getD]
theorem u8P_app_at (pre : List Int) (c : Int) (rest : List Int) : (u8P (pre ++ c :: rest))[((pre.length : Nat) : Int).toNat]? = some (.int .u8 c) := by
  rw [show ((pre.length : Nat) : Int).toNat = pre.length by omega, u8P_at _ _ (by simp), getD_app0]
noncomputable def lFMo : {F : LF // lowerF Try.prog 100 = some F} := ⟨_, rfl⟩
theorem mo_loop (z : Bool) (cp : Option Nat) (xs : List Int) (hB : Bytes xs) (hl : xs.length ≤ 1000000000000) (x0 : Nat) (Q : QX) (hq : Q (.exit 0) [(0, .c (.p (.int .u32 (crc x0 xs : Nat))))] ⟨[], 0⟩) :
    ∀ (rest pre : List Int) (x : Nat), xs = pre ++ rest → x < 4294967296 → crc x rest = crc x0 xs → XH Try.prog base lFMo.1.n 0 (lFMo.1.c.lp 0) [(0, .c (.p (.int .u32 x))), (7, .c (.p (.tz z 1 (u8P xs) cp))), (8, .c (.p (.int .i64 xs.length))), (9, .c (.p (.int .i64 pre.length)))] ⟨[], 0⟩ Q := by
  intro rest
  induction rest with
  | nil =>
    intro pre x hp hx hc
    have hlen : xs.length = pre.length := by rw [hp]; simp
    refine M.round (M.go rfl ?_)
    refine M.cond rfl (fun hc => absurd hc (by rw [hlen]; omega)) (fun hc2 => ?_)
    have hxx : x = crc x0 xs := hc
    subst hxx
    refine M.ren [] ?_ trivial rfl (by repeat' (first | exact True.intro | refine evC rfl rfl Wk.rfl ?_ | refine evC (accV_ren rfl) rfl Wk.rfl ?_ | refine evC (accV_ren rfl) rfl Wk.acc0 ?_ | refine evC rfl rfl Wk.uncap ?_ | refine evC rfl rfl Wk.nil ?_)) (by repeat' (first | exact True.intro | refine hpC rfl rfl rfl ?_ | refine ⟨⟨_, _, _, rfl, rfl, rfl, @WkO.rfl _⟩, ?_⟩ | refine HeapOK.acc rfl rfl ?_)) (e' := [(0, .c (.p (.int .u32 (crc x0 xs : Nat))))]) (h' := ⟨[], 0⟩)
    exact M.exit (M.go rfl (M.done hq))
  | cons c rest ih =>
    intro pre x hp hx hcr
    have hlen : xs.length = pre.length + (rest.length + 1) := by rw [hp]; simp
    have hc := hB c (by rw [hp]; simp)
    have hw2 : IntKind.i64.wrap ((pre.length : Int) + 1) = ((pre ++ [c]).length : Int) := by rw [wr64 (by omega) (by omega)]; simp
    have ih' := ih (pre ++ [c]) (crcB x c) (by rw [hp]; simp) (crcB_lt hx hc.1 hc.2) (by rw [← hcr]; rfl)
    have hu : (u8P xs)[((pre.length : Int)).toNat]? = some (.int .u8 c) := by rw [hp]; exact u8P_app_at _ _ _
    refine M.round (M.go rfl ?_)
    refine M.cond rfl (fun _ => ?_) (fun hn => absurd (by rw [hlen]; omega) hn)
    refine M.go rfl ?_
    refine M.op trivial (SOp.ia rfl rfl (by omega) hu) ?_
    refine M.op trivial (SOp.ld1e rfl hu rfl rfl rfl) ?_
    refine M.go rfl ?_
    rw [wu32n hc.1 (by omega)]
    obtain ⟨y0, hy0⟩ : ∃ y, y = x ^^^ c.toNat := ⟨_, rfl⟩
    have g0 : y0 < 4294967296 := by rw [hy0]; exact Nat.xor_lt_two_pow (n := 32) (by omega) (by omega)
    rw [bits_byte x c hx hc.1 hc.2, ← hy0]
    refine M.loop (M.round (M.go rfl ?_))
    refine M.cond rfl (fun _ => ?_) (fun hn => absurd (by decide) hn)
    refine M.go rfl ?_
    refine M.op trivial (SOp.shr rfl rfl (by omega)) ?_
    refine M.go rfl ?_
    rw [fshr (d := 2) y0 (by decide), bits_stepF y0 g0]
    obtain ⟨y1, hy1⟩ : ∃ y, y = step1 y0 := ⟨_, rfl⟩
    have g1 : y1 < 4294967296 := by rw [hy1]; exact step1_lt g0
    rw [← hy1]
    refine M.again (M.round (M.go rfl ?_))
    refine M.cond rfl (fun _ => ?_) (fun hn => absurd (by decide) hn)
    refine M.go rfl ?_
    refine M.op trivial (SOp.shr rfl rfl (by omega)) ?_
    refine M.go rfl ?_
    rw [fshr (d := 2) y1 (by decide), bits_stepF y1 g1]
    obtain ⟨y2, hy2⟩ : ∃ y, y = step1 y1 := ⟨_, rfl⟩
    have g2 : y2 < 4294967296 := by rw [hy2]; exact step1_lt g1
    rw [← hy2]
    refine M.again (M.round (M.go rfl ?_))
    refine M.cond rfl (fun _ => ?_) (fun hn => absurd (by decide) hn)
    refine M.go rfl ?_
    refine M.op trivial (SOp.shr rfl rfl (by omega)) ?_
    refine M.go rfl ?_
    rw [fshr (d := 2) y2 (by decide), bits_stepF y2 g2]
    obtain ⟨y3, hy3⟩ : ∃ y, y = step1 y2 := ⟨_, rfl⟩
    have g3 : y3 < 4294967296 := by rw [hy3]; exact step1_lt g2
    rw [← hy3]
    refine M.again (M.round (M.go rfl ?_))
    refine M.cond rfl (fun _ => ?_) (fun hn => absurd (by decide) hn)
    refine M.go rfl ?_
    refine M.op trivial (SOp.shr rfl rfl (by omega)) ?_
    refine M.go rfl ?_
    rw [fshr (d := 2) y3 (by decide), bits_stepF y3 g3]
    obtain ⟨y4, hy4⟩ : ∃ y, y = step1 y3 := ⟨_, rfl⟩
    have g4 : y4 < 4294967296 := by rw [hy4]; exact step1_lt g3
    rw [← hy4]
    refine M.again (M.round (M.go rfl ?_))
    refine M.cond rfl (fun _ => ?_) (fun hn => absurd (by decide) hn)
    refine M.go rfl ?_
    refine M.op trivial (SOp.shr rfl rfl (by omega)) ?_
    refine M.go rfl ?_
    rw [fshr (d := 2) y4 (by decide), bits_stepF y4 g4]
    obtain ⟨y5, hy5⟩ : ∃ y, y = step1 y4 := ⟨_, rfl⟩
    have g5 : y5 < 4294967296 := by rw [hy5]; exact step1_lt g4
    rw [← hy5]
    refine M.again (M.round (M.go rfl ?_))
    refine M.cond rfl (fun _ => ?_) (fun hn => absurd (by decide) hn)
    refine M.go rfl ?_
    refine M.op trivial (SOp.shr rfl rfl (by omega)) ?_
    refine M.go rfl ?_
    rw [fshr (d := 2) y5 (by decide), bits_stepF y5 g5]
    obtain ⟨y6, hy6⟩ : ∃ y, y = step1 y5 := ⟨_, rfl⟩
    have g6 : y6 < 4294967296 := by rw [hy6]; exact step1_lt g5
    rw [← hy6]
    refine M.again (M.round (M.go rfl ?_))
    refine M.cond rfl (fun _ => ?_) (fun hn => absurd (by decide) hn)
    refine M.go rfl ?_
    refine M.op trivial (SOp.shr rfl rfl (by omega)) ?_
    refine M.go rfl ?_
    rw [fshr (d := 2) y6 (by decide), bits_stepF y6 g6]
    obtain ⟨y7, hy7⟩ : ∃ y, y = step1 y6 := ⟨_, rfl⟩
    have g7 : y7 < 4294967296 := by rw [hy7]; exact step1_lt g6
    rw [← hy7]
    refine M.again (M.round (M.go rfl ?_))
    refine M.cond rfl (fun _ => ?_) (fun hn => absurd (by decide) hn)
    refine M.go rfl ?_
    refine M.op trivial (SOp.shr rfl rfl (by omega)) ?_
    refine M.go rfl ?_
    rw [fshr (d := 2) y7 (by decide), bits_stepF y7 g7]
    obtain ⟨y8, hy8⟩ : ∃ y, y = step1 y7 := ⟨_, rfl⟩
    have g8 : y8 < 4294967296 := by rw [hy8]; exact step1_lt g7
    rw [← hy8]
    refine M.again (M.round (M.go rfl ?_))
    refine M.cond rfl (fun hn => absurd hn (by decide)) (fun _ => ?_)
    refine M.exit (M.go rfl ?_)
    iterate 9 refine M.done (M.q (M.go rfl ?_))
    have hy : y8 = crcB x c := by rw [hy8, hy7, hy6, hy5, hy4, hy3, hy2, hy1, hy0]; rfl
    rw [hy]
    rw [hw2]
    exact M.again (XH.ren [] ih' rfl (by repeat' (first | exact True.intro | refine evC rfl rfl Wk.rfl ?_ | refine evC (accV_ren rfl) rfl Wk.rfl ?_ | refine evC (accV_ren rfl) rfl Wk.acc0 ?_ | refine evC rfl rfl Wk.uncap ?_ | refine evC rfl rfl Wk.nil ?_)) (by repeat' (first | exact True.intro | refine hpC rfl rfl rfl ?_ | refine ⟨⟨_, _, _, rfl, rfl, rfl, @WkO.rfl _⟩, ?_⟩ | refine HeapOK.acc rfl rfl ?_)))
theorem more_spec (x : Nat) (xs : List Int) (hx : x < 4294967296) (hB : Bytes xs) (hl : xs.length ≤ 1000000000000) (z : Bool) (cp : Option Nat) : CallS Try.prog base 100 [.c (.p (.int .u32 x)), .c (.p (.tz z 1 (u8P xs) cp))] ⟨[], 0⟩ (.c (.p (.int .u32 (crc x xs : Nat)))) ⟨[], 0⟩ := by
  refine CallS.of noNG lFMo.2 rfl (M.start (M.go rfl ?_))
  have hlen : (u8P xs).length = xs.length := u8P_len xs
  refine M.loop (XH.ren [] (mo_loop z cp xs hB hl x _ ?_ xs [] x rfl hx rfl) rfl ?_ (by repeat' (first | exact True.intro | refine hpC rfl rfl rfl ?_ | refine ⟨⟨_, _, _, rfl, rfl, rfl, @WkO.rfl _⟩, ?_⟩ | refine HeapOK.acc rfl rfl ?_)))
  · refine M.q (M.go rfl ?_)
    exact M.ret (M.go rfl (M.done (finQ.ret [] rfl rfl rfl (by first | exact Wk.rfl | exact Wk.uncap | exact Wk.nil | exact Wk.b1 rfl | exact Wk.t2 Wk.rfl (Wk.b1 rfl)) (by repeat' (first | exact True.intro | refine hpC rfl rfl rfl ?_ | refine ⟨⟨_, _, _, rfl, rfl, rfl, @WkO.rfl _⟩, ?_⟩ | refine HeapOK.acc rfl rfl ?_)))))
  · rw [← hlen]
    exact (by repeat' (first | exact True.intro | refine evC rfl rfl Wk.rfl ?_ | refine evC (accV_ren rfl) rfl Wk.rfl ?_ | refine evC (accV_ren rfl) rfl Wk.acc0 ?_ | refine evC rfl rfl Wk.uncap ?_ | refine evC rfl rfl Wk.nil ?_))
theorem mo_loopO (xs : List Int) (hB : Bytes xs) (hl : xs.length ≤ 1000000000000) (x0 : Nat) (Q : QX) (hq : Q (.exit 0) [(0, .c (.p (.int .u32 (crc x0 xs : Nat))))] ⟨[(0, some (.els 1 (u8P xs)))], 1⟩) :
    ∀ (rest pre : List Int) (x : Nat), xs = pre ++ rest → x < 4294967296 → crc x rest = crc x0 xs → XH Try.prog base lFMo.1.n 1 (lFMo.1.c.lp 0) [(0, .c (.p (.int .u32 x))), (7, .c (.sl 0 0 xs.length 1 none)), (8, .c (.p (.int .i64 xs.length))), (9, .c (.p (.int .i64 pre.length)))] ⟨[(0, some (.els 1 (u8P xs)))], 1⟩ Q := by
  intro rest
  induction rest with
  | nil =>
    intro pre x hp hx hc
    have hlen : xs.length = pre.length := by rw [hp]; simp
    refine M.round (M.go rfl ?_)
    refine M.cond rfl (fun hc => absurd hc (by rw [hlen]; omega)) (fun hc2 => ?_)
    have hxx : x = crc x0 xs := hc
    subst hxx
    refine M.ren [(0, 0)] ?_ trivial rfl (by repeat' (first | exact True.intro | refine evC rfl rfl Wk.rfl ?_ | refine evC (accV_ren rfl) rfl Wk.rfl ?_ | refine evC (accV_ren rfl) rfl Wk.acc0 ?_ | refine evC rfl rfl Wk.uncap ?_ | refine evC rfl rfl Wk.nil ?_)) (by repeat' (first | exact True.intro | refine hpC rfl rfl rfl ?_ | refine ⟨⟨_, _, _, rfl, rfl, rfl, @WkO.rfl _⟩, ?_⟩ | refine HeapOK.acc rfl rfl ?_)) (e' := [(0, .c (.p (.int .u32 (crc x0 xs : Nat))))]) (h' := ⟨[(0, some (.els 1 (u8P xs)))], 1⟩)
    exact M.exit (M.go rfl (M.done hq))
  | cons c rest ih =>
    intro pre x hp hx hcr
    have hlen : xs.length = pre.length + (rest.length + 1) := by rw [hp]; simp
    have hc := hB c (by rw [hp]; simp)
    have hw2 : IntKind.i64.wrap ((pre.length : Int) + 1) = ((pre ++ [c]).length : Int) := by rw [wr64 (by omega) (by omega)]; simp
    have ih' := ih (pre ++ [c]) (crcB x c) (by rw [hp]; simp) (crcB_lt hx hc.1 hc.2) (by rw [← hcr]; rfl)
    have hu : (u8P xs)[((pre.length : Int)).toNat]? = some (.int .u8 c) := by rw [hp]; exact u8P_app_at _ _ _
    refine M.round (M.go rfl ?_)
    refine M.cond rfl (fun _ => ?_) (fun hn => absurd (by rw [hlen]; omega) hn)
    refine M.go rfl ?_
    refine M.op trivial (SOp.iaOn rfl rfl (by omega)) ?_
    refine M.op trivial (SOp.ld1O rfl rfl hu rfl rfl rfl) ?_
    refine M.go rfl ?_
    rw [wu32n hc.1 (by omega)]
    obtain ⟨y0, hy0⟩ : ∃ y, y = x ^^^ c.toNat := ⟨_, rfl⟩
    have g0 : y0 < 4294967296 := by rw [hy0]; exact Nat.xor_lt_two_pow (n := 32) (by omega) (by omega)
    rw [bits_byte x c hx hc.1 hc.2, ← hy0]
    refine M.loop (M.round (M.go rfl ?_))
    refine M.cond rfl (fun _ => ?_) (fun hn => absurd (by decide) hn)
    refine M.go rfl ?_
    refine M.op trivial (SOp.shr rfl rfl (by omega)) ?_
    refine M.go rfl ?_
    rw [fshr (d := 2) y0 (by decide), bits_stepF y0 g0]
    obtain ⟨y1, hy1⟩ : ∃ y, y = step1 y0 := ⟨_, rfl⟩
    have g1 : y1 < 4294967296 := by rw [hy1]; exact step1_lt g0
    rw [← hy1]
    refine M.again (M.round (M.go rfl ?_))
    refine M.cond rfl (fun _ => ?_) (fun hn => absurd (by decide) hn)
    refine M.go rfl ?_
    refine M.op trivial (SOp.shr rfl rfl (by omega)) ?_
    refine M.go rfl ?_
    rw [fshr (d := 2) y1 (by decide), bits_stepF y1 g1]
    obtain ⟨y2, hy2⟩ : ∃ y, y = step1 y1 := ⟨_, rfl⟩
    have g2 : y2 < 4294967296 := by rw [hy2]; exact step1_lt g1
    rw [← hy2]
    refine M.again (M.round (M.go rfl ?_))
    refine M.cond rfl (fun _ => ?_) (fun hn => absurd (by decide) hn)
    refine M.go rfl ?_
    refine M.op trivial (SOp.shr rfl rfl (by omega)) ?_
    refine M.go rfl ?_
    rw [fshr (d := 2) y2 (by decide), bits_stepF y2 g2]
    obtain ⟨y3, hy3⟩ : ∃ y, y = step1 y2 := ⟨_, rfl⟩
    have g3 : y3 < 4294967296 := by rw [hy3]; exact step1_lt g2
    rw [← hy3]
    refine M.again (M.round (M.go rfl ?_))
    refine M.cond rfl (fun _ => ?_) (fun hn => absurd (by decide) hn)
    refine M.go rfl ?_
    refine M.op trivial (SOp.shr rfl rfl (by omega)) ?_
    refine M.go rfl ?_
    rw [fshr (d := 2) y3 (by decide), bits_stepF y3 g3]
    obtain ⟨y4, hy4⟩ : ∃ y, y = step1 y3 := ⟨_, rfl⟩
    have g4 : y4 < 4294967296 := by rw [hy4]; exact step1_lt g3
    rw [← hy4]
    refine M.again (M.round (M.go rfl ?_))
    refine M.cond rfl (fun _ => ?_) (fun hn => absurd (by decide) hn)
    refine M.go rfl ?_
    refine M.op trivial (SOp.shr rfl rfl (by omega)) ?_
    refine M.go rfl ?_
    rw [fshr (d := 2) y4 (by decide), bits_stepF y4 g4]
    obtain ⟨y5, hy5⟩ : ∃ y, y = step1 y4 := ⟨_, rfl⟩
    have g5 : y5 < 4294967296 := by rw [hy5]; exact step1_lt g4
    rw [← hy5]
    refine M.again (M.round (M.go rfl ?_))
    refine M.cond rfl (fun _ => ?_) (fun hn => absurd (by decide) hn)
    refine M.go rfl ?_
    refine M.op trivial (SOp.shr rfl rfl (by omega)) ?_
    refine M.go rfl ?_
    rw [fshr (d := 2) y5 (by decide), bits_stepF y5 g5]
    obtain ⟨y6, hy6⟩ : ∃ y, y = step1 y5 := ⟨_, rfl⟩
    have g6 : y6 < 4294967296 := by rw [hy6]; exact step1_lt g5
    rw [← hy6]
    refine M.again (M.round (M.go rfl ?_))
    refine M.cond rfl (fun _ => ?_) (fun hn => absurd (by decide) hn)
    refine M.go rfl ?_
    refine M.op trivial (SOp.shr rfl rfl (by omega)) ?_
    refine M.go rfl ?_
    rw [fshr (d := 2) y6 (by decide), bits_stepF y6 g6]
    obtain ⟨y7, hy7⟩ : ∃ y, y = step1 y6 := ⟨_, rfl⟩
    have g7 : y7 < 4294967296 := by rw [hy7]; exact step1_lt g6
    rw [← hy7]
    refine M.again (M.round (M.go rfl ?_))
    refine M.cond rfl (fun _ => ?_) (fun hn => absurd (by decide) hn)
    refine M.go rfl ?_
    refine M.op trivial (SOp.shr rfl rfl (by omega)) ?_
    refine M.go rfl ?_
    rw [fshr (d := 2) y7 (by decide), bits_stepF y7 g7]
    obtain ⟨y8, hy8⟩ : ∃ y, y = step1 y7 := ⟨_, rfl⟩
    have g8 : y8 < 4294967296 := by rw [hy8]; exact step1_lt g7
    rw [← hy8]
    refine M.again (M.round (M.go rfl ?_))
    refine M.cond rfl (fun hn => absurd hn (by decide)) (fun _ => ?_)
    refine M.exit (M.go rfl ?_)
    iterate 9 refine M.done (M.q (M.go rfl ?_))
    have hy : y8 = crcB x c := by rw [hy8, hy7, hy6, hy5, hy4, hy3, hy2, hy1, hy0]; rfl
    rw [hy]
    rw [hw2]
    exact M.again (XH.ren [(0, 0)] ih' rfl (by repeat' (first | exact True.intro | refine evC rfl rfl Wk.rfl ?_ | refine evC (accV_ren rfl) rfl Wk.rfl ?_ | refine evC (accV_ren rfl) rfl Wk.acc0 ?_ | refine evC rfl rfl Wk.uncap ?_ | refine evC rfl rfl Wk.nil ?_)) (by repeat' (first | exact True.intro | refine hpC rfl rfl rfl ?_ | refine ⟨⟨_, _, _, rfl, rfl, rfl, @WkO.rfl _⟩, ?_⟩ | refine HeapOK.acc rfl rfl ?_)))
theorem moreO_spec (x : Nat) (xs : List Int) (hx : x < 4294967296) (hB : Bytes xs) (hl : xs.length ≤ 1000000000000) : CallS Try.prog base 100 [.c (.p (.int .u32 x)), .c (.sl 0 0 xs.length 1 none)] ⟨[(0, some (.els 1 (u8P xs)))], 1⟩ (.c (.p (.int .u32 (crc x xs : Nat)))) ⟨[(0, some (.els 1 (u8P xs)))], 1⟩ := by
  refine CallS.of noNG lFMo.2 rfl (M.start (M.go rfl ?_))
  have hlen : (u8P xs).length = xs.length := u8P_len xs
  refine M.loop (XH.ren [(0, 0)] (mo_loopO xs hB hl x _ ?_ xs [] x rfl hx rfl) rfl ?_ (by repeat' (first | exact True.intro | refine hpC rfl rfl rfl ?_ | refine ⟨⟨_, _, _, rfl, rfl, rfl, @WkO.rfl _⟩, ?_⟩ | refine HeapOK.acc rfl rfl ?_)))
  · refine M.q (M.go rfl ?_)
    exact M.ret (M.go rfl (M.done (finQ.ret [(0, 0)] rfl rfl rfl (by first | exact Wk.rfl | exact Wk.uncap | exact Wk.nil | exact Wk.b1 rfl | exact Wk.t2 Wk.rfl (Wk.b1 rfl)) (by repeat' (first | exact True.intro | refine hpC rfl rfl rfl ?_ | refine ⟨⟨_, _, _, rfl, rfl, rfl, @WkO.rfl _⟩, ?_⟩ | refine HeapOK.acc rfl rfl ?_)))))
  · exact (by repeat' (first | exact True.intro | refine evC rfl rfl Wk.rfl ?_ | refine evC (accV_ren rfl) rfl Wk.rfl ?_ | refine evC (accV_ren rfl) rfl Wk.acc0 ?_ | refine evC rfl rfl Wk.uncap ?_ | refine evC rfl rfl Wk.nil ?_))
end Go.Proofs.Ytjlfojgacnphmaa

namespace Go.Proofs.Ytjlfojgacnphmaa
open Go.RowKit Sim Go Sym
set_option maxRecDepth 100000
set_option linter.unusedVariables false
set_option linter.unusedSimpArgs false
variable {base : Nat}
theorem four_PC (n : Nat) : ([.int .u8 (IntKind.u8.wrap (n : Int)), .int .u8 (IntKind.u8.wrap ((n / 256 : Nat) : Int)), .int .u8 (IntKind.u8.wrap ((n / 65536 : Nat) : Int)), .int .u8 (IntKind.u8.wrap ((n / 16777216 : Nat) : Int))] : List PC) = u8P (four n) := by
  simp only [u8P, four, wu8, List.map_cons, List.map_nil]
  rfl
noncomputable def lFPut : {F : LF // lowerF Try.prog 99 = some F} := ⟨_, rfl⟩
theorem fput0_spec (n : Nat) : CallS Try.prog base 99 [.c (.p (.tz true 0 [] none)), .c (.p (.int .u32 n))] ⟨[], 0⟩ (.c (.sl 0 0 4 1 none)) ⟨[(0, some (.els 1 (u8P (four n))))], 1⟩ := by
  refine CallS.of noNG lFPut.2 rfl (M.start (M.go rfl ?_))
  refine M.op trivial (SOp.shr rfl rfl (by omega)) ?_
  rw [fshr (d := 256) n (by decide)]
  refine M.go rfl ?_
  refine M.op trivial (SOp.shr rfl rfl (by omega)) ?_
  rw [fshr (d := 65536) n (by decide)]
  refine M.go rfl ?_
  refine M.op trivial (SOp.shr rfl rfl (by omega)) ?_
  rw [fshr (d := 16777216) n (by decide)]
  refine M.go rfl ?_
  rw [four_PC]
  refine M.op trivial (SOp.appN rfl rfl (.own rfl rfl) (by simp [u8P, four]) (by rw [u8P_len]; simp [four])) ?_
  rw [show (u8P (four n)).length = 4 from rfl]
  refine M.go rfl ?_
  exact M.ret (M.go rfl (M.done (finQ.ret [(0, 1)] rfl rfl rfl (by first | exact Wk.rfl | exact Wk.uncap | exact Wk.nil | exact Wk.b1 rfl | exact Wk.t2 Wk.rfl (Wk.b1 rfl)) (by repeat' (first | exact True.intro | refine hpC rfl rfl rfl ?_ | refine ⟨⟨_, _, _, rfl, rfl, rfl, @WkO.rfl _⟩, ?_⟩ | refine HeapOK.acc rfl rfl ?_)))))
theorem fput_spec (bs : List Int) (n : Nat) (hl : bs.length ≤ 1000000000000) : CallS Try.prog base 99 [.c (.sl 0 0 bs.length 1 none), .c (.p (.int .u32 n))] ⟨[(0, some (.els 1 (u8P bs)))], 1⟩ (.c (.sl 1 0 (bs.length + 4) 1 none)) ⟨[(1, some (.els 1 (u8P (bs ++ four n))))], 2⟩ := by
  refine CallS.of noNG lFPut.2 rfl (M.start (M.go rfl ?_))
  refine M.op trivial (SOp.shr rfl rfl (by omega)) ?_
  rw [fshr (d := 256) n (by decide)]
  refine M.go rfl ?_
  refine M.op trivial (SOp.shr rfl rfl (by omega)) ?_
  rw [fshr (d := 65536) n (by decide)]
  refine M.go rfl ?_
  refine M.op trivial (SOp.shr rfl rfl (by omega)) ?_
  rw [fshr (d := 16777216) n (by decide)]
  refine M.go rfl ?_
  rw [four_PC]
  refine M.op trivial (SOp.appO rfl rfl (u8P_len bs).symm rfl (.own rfl rfl) (by simp [u8P, four]) (by rw [u8P_len, u8P_len]; simp [four]; omega)) ?_
  rw [u8P_len, u8P_len, ← u8P_app, show (four n).length = 4 from rfl]
  refine M.go rfl ?_
  exact M.ret (M.go rfl (M.done (finQ.ret [(0, 0), (1, 2)] rfl rfl rfl (by first | exact Wk.rfl | exact Wk.uncap | exact Wk.nil | exact Wk.b1 rfl | exact Wk.t2 Wk.rfl (Wk.b1 rfl)) (by repeat' (first | exact True.intro | refine hpC rfl rfl rfl ?_ | refine ⟨⟨_, _, _, rfl, rfl, rfl, @WkO.rfl _⟩, ?_⟩ | refine HeapOK.acc rfl rfl ?_)))))
noncomputable def lFGet : {F : LF // lowerF Try.prog 120 = some F} := ⟨_, rfl⟩
theorem getF_bits {y0 y1 y2 y3 : Nat} (h0 : y0 < 256) (h1 : y1 < 256) (h2 : y2 < 256) (h3 : y3 < 256) :
    bits .or .u32 (bits .or .u32 (bits .or .u32 (y0 : Int) ((y1 * 256 : Nat) : Int)) ((y2 * 65536 : Nat) : Int)) ((y3 * 16777216 : Nat) : Int) = ((y0 + y1 * 256 + y2 * 65536 + y3 * 16777216 : Nat) : Int) := by
  have e1 := or_join y0 y1 8 (by omega) (by omega) (by omega)
  have e2 := or_join (y0 + y1 * 2 ^ 8) y2 16 (by omega) (by omega) (by omega)
  have e3 := or_join (y0 + y1 * 2 ^ 8 + y2 * 2 ^ 16) y3 24 (by omega) (by omega) (by omega)
  simp only [Nat.reducePow] at e1 e2 e3
  rw [e1, e2, e3]
theorem fshl {k : IntKind} {s : Int} {d : Nat} (m : Nat) (h : (2 : Int) ^ (min s.toNat k.bits) = (d : Int)) : (m : Int) * (2 ^ (min s.toNat k.bits)) = ((m * d : Nat) : Int) := by
  rw [h]; simp
theorem fget_spec (z : Bool) (c : Option Nat) (xs : List Int) (hB : Bytes xs) (hl : 4 ≤ xs.length) : CallS Try.prog base 120 [.c (.p (.tz z 1 (u8P xs) c))] ⟨[], 0⟩ (.c (.p (.int .u32 (getB xs : Nat)))) ⟨[], 0⟩ := by
  have u0 := u8P_at xs 0 (by omega)
  have u1 := u8P_at xs 1 (by omega)
  have u2 := u8P_at xs 2 (by omega)
  have u3 := u8P_at xs 3 (by omega)
  have r0 := hB.at 0
  have r1 := hB.at 1
  have r2 := hB.at 2
  have r3 := hB.at 3
  have Hg : getB xs = (xs.getD 0 0).toNat + (xs.getD 1 0).toNat * 256 + (xs.getD 2 0).toNat * 65536 + (xs.getD 3 0).toNat * 16777216 := rfl
  generalize getB xs = G at Hg
  generalize u8P xs = el at u0 u1 u2 u3
  generalize xs.getD 0 0 = x0 at u0 r0 Hg
  generalize xs.getD 1 0 = x1 at u1 r1 Hg
  generalize xs.getD 2 0 = x2 at u2 r2 Hg
  generalize xs.getD 3 0 = x3 at u3 r3 Hg
  obtain ⟨y0, rfl⟩ := Int.eq_ofNat_of_zero_le r0.1
  obtain ⟨y1, rfl⟩ := Int.eq_ofNat_of_zero_le r1.1
  obtain ⟨y2, rfl⟩ := Int.eq_ofNat_of_zero_le r2.1
  obtain ⟨y3, rfl⟩ := Int.eq_ofNat_of_zero_le r3.1
  refine CallS.of noNG lFGet.2 rfl (M.start (M.go rfl ?_))
  refine M.regD (MD.go rfl ?_)
  refine MD.op trivial (SOp.ia rfl rfl (by omega) u0) ?_
  refine MD.op trivial (SOp.ld1e rfl u0 rfl rfl rfl) ?_
  refine MD.go rfl ?_
  refine MD.op trivial (SOp.ia rfl rfl (by omega) u1) ?_
  refine MD.op trivial (SOp.ld1e rfl u1 rfl rfl rfl) ?_
  refine MD.go rfl ?_
  refine MD.op trivial (SOp.shl rfl rfl (by omega)) ?_
  refine MD.go rfl ?_
  refine MD.op trivial (SOp.ia rfl rfl (by omega) u2) ?_
  refine MD.op trivial (SOp.ld1e rfl u2 rfl rfl rfl) ?_
  refine MD.go rfl ?_
  refine MD.op trivial (SOp.shl rfl rfl (by omega)) ?_
  refine MD.go rfl ?_
  refine MD.op trivial (SOp.ia rfl rfl (by omega) u3) ?_
  refine MD.op trivial (SOp.ld1e rfl u3 rfl rfl rfl) ?_
  refine MD.go rfl ?_
  refine MD.op trivial (SOp.shl rfl rfl (by omega)) ?_
  refine MD.go rfl ?_
  refine MD.nil mixed (Fnl.nodup rfl) (M.go rfl ?_)
  simp only [Int.ofNat_eq_natCast, Int.toNat_natCast] at r0 r1 r2 r3 Hg ⊢
  rw [wu32n (n := (y0 : Int)) (by omega) (by omega), wu32n (n := (y1 : Int)) (by omega) (by omega), wu32n (n := (y2 : Int)) (by omega) (by omega), wu32n (n := (y3 : Int)) (by omega) (by omega)]
  rw [fshl (d := 256) y1 (by decide), fshl (d := 65536) y2 (by decide), fshl (d := 16777216) y3 (by decide)]
  rw [wu32n (n := ((y1 * 256 : Nat) : Int)) (by omega) (by omega), wu32n (n := ((y2 * 65536 : Nat) : Int)) (by omega) (by omega), wu32n (n := ((y3 * 16777216 : Nat) : Int)) (by omega) (by omega)]
  rw [getF_bits (by omega) (by omega) (by omega) (by omega), ← Hg]
  exact M.ret (M.go rfl (M.done (finQ.ret [] rfl rfl rfl (by first | exact Wk.rfl | exact Wk.uncap | exact Wk.nil | exact Wk.b1 rfl | exact Wk.t2 Wk.rfl (Wk.b1 rfl)) (by repeat' (first | exact True.intro | refine hpC rfl rfl rfl ?_ | refine ⟨⟨_, _, _, rfl, rfl, rfl, @WkO.rfl _⟩, ?_⟩ | refine HeapOK.acc rfl rfl ?_)))))
noncomputable def lFSeal : {F : LF // lowerF Try.prog 63 = some F} := ⟨_, rfl⟩
theorem bits_notF {c : Nat} (h : c < 4294967296) : bits .xor .u32 (if IntKind.u32.signed = true then -1 else IntKind.u32.max) (c : Int) = ((4294967295 - c : Nat) : Int) := by
  have := bits_not h
  rwa [if_neg (by decide)]
theorem sealS_yes (z : Bool) (c : Option Nat) (xs : List Int) (hB : Bytes xs) (h : xs.length ≤ 65536) : CallS Try.prog base 63 [.c (.p (.tz z 1 (u8P xs) c))] ⟨[], 0⟩ (.c (.p (.tz false 1 (u8P (sealB xs)) none))) ⟨[], 0⟩ := by
  have hlen : (u8P xs).length = xs.length := u8P_len xs
  have hc1 := crc_lt (x := 4294967295) (xs := four xs.length) (by omega) (four_bytes _)
  have hc2 := crc_lt hc1 hB
  have hs : 4294967295 - crc (crc 4294967295 (four xs.length)) xs = sumB (four xs.length ++ xs) := by rw [sumB, crc_append]
  refine CallS.of noNG lFSeal.2 rfl (M.start (M.go rfl ?_))
  refine M.cond rfl (fun hn => absurd hn (by rw [hlen]; omega)) (fun _ => ?_)
  refine M.go rfl ?_
  rw [hlen, wu32n (n := (xs.length : Int)) (by omega) (by omega)]
  refine M.use trivial (fput0_spec xs.length) [] rfl rfl rfl trivial rfl rfl ?_
  refine M.go rfl ?_
  refine M.use trivial (moreO_spec 4294967295 (four xs.length) (by omega) (four_bytes _) (by simp [four])) [(0, 0)] rfl rfl rfl (by repeat' (first | exact True.intro | refine hpC rfl rfl rfl ?_ | refine ⟨⟨_, _, _, rfl, rfl, rfl, @WkO.rfl _⟩, ?_⟩ | refine HeapOK.acc rfl rfl ?_)) rfl rfl ?_
  refine M.go rfl ?_
  refine M.use0 trivial (more_spec _ xs hc1 hB (by omega) z c) rfl rfl rfl ?_
  refine M.go rfl ?_
  rw [bits_notF hc2, hs]
  refine M.use trivial (fput_spec (four xs.length) (sumB (four xs.length ++ xs)) (by simp [four])) [(0, 0)] rfl rfl rfl (by repeat' (first | exact True.intro | refine hpC rfl rfl rfl ?_ | refine ⟨⟨_, _, _, rfl, rfl, rfl, @WkO.rfl _⟩, ?_⟩ | refine HeapOK.acc rfl rfl ?_)) rfl rfl ?_
  refine M.go rfl ?_
  have hseal : sealB xs = four xs.length ++ four (sumB (four xs.length ++ xs)) ++ xs := seal_eq h
  have hne : u8P (sealB xs) ≠ [] := by rw [hseal]; simp [u8P, four]
  by_cases h0 : xs = []
  · subst h0
    rw [List.append_nil] at hseal
    refine M.op trivial (SOp.app0 rfl rfl .tz (.inl ⟨_, _, _, _, _, rfl⟩)) ?_
    refine M.go rfl ?_
    refine M.freezeN (i := 2) rfl rfl (by simp [u8P, four]) ?_
    rw [← hseal]
    refine M.ren [] ?_ trivial rfl (by repeat' (first | exact True.intro | refine evC rfl rfl Wk.rfl ?_ | refine evC (accV_ren rfl) rfl Wk.rfl ?_ | refine evC (accV_ren rfl) rfl Wk.acc0 ?_ | refine evC rfl rfl Wk.uncap ?_ | refine evC rfl rfl Wk.nil ?_)) (by repeat' (first | exact True.intro | refine hpC rfl rfl rfl ?_ | refine ⟨⟨_, _, _, rfl, rfl, rfl, @WkO.rfl _⟩, ?_⟩ | refine HeapOK.acc rfl rfl ?_)) (e' := [(2, .c (.p (.tz false 1 (u8P (sealB [])) none)))]) (h' := ⟨[], 0⟩)
    exact M.ret (M.go rfl (M.done (finQ.ret [] rfl rfl rfl (by first | exact Wk.rfl | exact Wk.uncap | exact Wk.nil | exact Wk.b1 rfl | exact Wk.t2 Wk.rfl (Wk.b1 rfl)) (by repeat' (first | exact True.intro | refine hpC rfl rfl rfl ?_ | refine ⟨⟨_, _, _, rfl, rfl, rfl, @WkO.rfl _⟩, ?_⟩ | refine HeapOK.acc rfl rfl ?_)))))
  · have h1 : u8P xs ≠ [] := by simpa [u8P] using h0
    refine M.op trivial (SOp.appO rfl rfl (by simp [u8P, four]) rfl .tz h1 (by simp [u8P, four]; omega)) ?_
    rw [← u8P_app, ← hseal]
    refine M.go rfl ?_
    refine M.freezeN (i := 2) rfl rfl (by rw [hseal]; simp [u8P, four]; omega) ?_
    refine M.ren [] ?_ trivial rfl (by repeat' (first | exact True.intro | refine evC rfl rfl Wk.rfl ?_ | refine evC (accV_ren rfl) rfl Wk.rfl ?_ | refine evC (accV_ren rfl) rfl Wk.acc0 ?_ | refine evC rfl rfl Wk.uncap ?_ | refine evC rfl rfl Wk.nil ?_)) (by repeat' (first | exact True.intro | refine hpC rfl rfl rfl ?_ | refine ⟨⟨_, _, _, rfl, rfl, rfl, @WkO.rfl _⟩, ?_⟩ | refine HeapOK.acc rfl rfl ?_)) (e' := [(2, .c (.p (.tz false 1 (u8P (sealB xs)) none)))]) (h' := ⟨[], 0⟩)
    exact M.ret (M.go rfl (M.done (finQ.ret [] rfl rfl rfl (by first | exact Wk.rfl | exact Wk.uncap | exact Wk.nil | exact Wk.b1 rfl | exact Wk.t2 Wk.rfl (Wk.b1 rfl)) (by repeat' (first | exact True.intro | refine hpC rfl rfl rfl ?_ | refine ⟨⟨_, _, _, rfl, rfl, rfl, @WkO.rfl _⟩, ?_⟩ | refine HeapOK.acc rfl rfl ?_)))))
theorem flatE_u8P : ∀ l : List Int, flatE 1 (u8P l) = l.map fun x => SC.int .u8 x
  | [] => rfl
  | x :: l => by
    have := flatE_u8P l
    simp only [u8P, List.map_cons, flatE] at this ⊢
    rw [this]; rfl
theorem tz_inj {z z' : Bool} {a b : List Int} {c c' : Option Nat} (h : (PC.tz z 1 (u8P a) c).sc = (PC.tz z' 1 (u8P b) c').sc) : a = b := by
  simp only [PC.sc] at h
  cases h1 : z && (u8P a).isEmpty <;> cases h2 : z' && (u8P b).isEmpty <;> rw [h1, h2] at h <;> simp only [cond_true, cond_false] at h
  · simp only [SC.fz.injEq, flatE_u8P] at h
    have := h.2.2.1
    have hinj : ∀ x y : Int, SC.int .u8 x = SC.int .u8 y → x = y := fun x y e => by simpa using e
    exact List.map_inj_right hinj |>.1 this
  · cases h
  · cases h
  · have e1 : a = [] := by have := (Bool.and_eq_true _ _ ▸ h1 : _ ∧ _).2; simpa [u8P] using this
    have e2 : b = [] := by have := (Bool.and_eq_true _ _ ▸ h2 : _ ∧ _).2; simpa [u8P] using this
    rw [e1, e2]
noncomputable def lFFst : {F : LF // lowerF Try.prog 97 = some F} := ⟨_, rfl⟩
def firstV : Option (List Int) → XV
  | some x => .tup [.c (.p (.tz false 1 (u8P x) none)), .c (.p (.bs true))]
  | none => .tup [.c (.p (.tz true 1 [] none)), .c (.p (.bs false))]
theorem first_spec (z : Bool) (c : Option Nat) (xs : List Int) (hB : Bytes xs) (hl : xs.length ≤ 1000000000000) : CallS Try.prog base 97 [.c (.p (.tz z 1 (u8P xs) c))] ⟨[], 0⟩ (firstV (firstB xs)) ⟨[], 0⟩ := by
  have hlen : (u8P xs).length = xs.length := u8P_len xs
  refine CallS.of noNG lFFst.2 rfl (M.start (M.go rfl ?_))
  refine M.cond rfl (fun h8 => ?_) (fun h8 => ?_)
  · have : firstB xs = none := by rw [firstB, if_pos (by rw [hlen] at h8; omega)]
    rw [this]
    refine M.go rfl ?_
    exact M.ret (M.go rfl (M.done (finQ.ret [] rfl rfl rfl (Wk.t2 Wk.nil (Wk.b1 rfl)) (by repeat' (first | exact True.intro | refine hpC rfl rfl rfl ?_ | refine ⟨⟨_, _, _, rfl, rfl, rfl, @WkO.rfl _⟩, ?_⟩ | refine HeapOK.acc rfl rfl ?_)))))
  · have h9 : 8 ≤ xs.length := by rw [hlen] at h8; omega
    have hg32 := getB_lt hB
    rw [firstB, if_neg (by omega)]
    refine M.go rfl ?_
    refine M.use0 trivial (fget_spec z c xs hB (by omega)) rfl rfl rfl ?_
    refine M.go rfl ?_
    refine M.dec rfl (fun hg => ?_) (fun hg => ?_)
    · rw [if_pos (.inl (by omega))]
      refine M.go rfl ?_
      exact M.ret (M.go rfl (M.done (finQ.ret [] rfl rfl rfl (Wk.t2 Wk.nil (Wk.b1 rfl)) (by repeat' (first | exact True.intro | refine hpC rfl rfl rfl ?_ | refine ⟨⟨_, _, _, rfl, rfl, rfl, @WkO.rfl _⟩, ?_⟩ | refine HeapOK.acc rfl rfl ?_)))))
    · refine M.go rfl ?_
      rw [hlen, wr64 (n := (getB xs : Int)) (by omega) (by omega), wr64 (n := (xs.length : Int) - 8) (by omega) (by omega)]
      refine M.cond rfl (fun hg2 => ?_) (fun hg2 => ?_)
      · rw [if_pos (.inr (by omega))]
        refine M.go rfl ?_
        exact M.ret (M.go rfl (M.done (finQ.ret [] rfl rfl rfl (Wk.t2 Wk.nil (Wk.b1 rfl)) (by repeat' (first | exact True.intro | refine hpC rfl rfl rfl ?_ | refine ⟨⟨_, _, _, rfl, rfl, rfl, @WkO.rfl _⟩, ?_⟩ | refine HeapOK.acc rfl rfl ?_)))))
      · rw [if_neg (by omega)]
        refine M.go rfl ?_
        rw [wr64 (n := 8 + IntKind.i64.wrap (getB xs : Int)) (by rw [wr64 (by omega) (by omega)]; omega) (by rw [wr64 (by omega) (by omega)]; omega), wr64 (n := (getB xs : Int)) (by omega) (by omega)]
        refine M.op trivial (SOp.sl (l := 8) (r := 8 + getB xs) rfl ⟨_, _, rfl, by omega, rfl⟩ ⟨_, _, rfl, by omega, by omega⟩ (by omega) (by rw [hlen]; omega)) ?_
        rw [u8P_drop, u8P_take, Nat.add_sub_cancel_left]
        obtain ⟨z1, hz1⟩ : ∃ z1, z1 = (z && (u8P xs).isEmpty) := ⟨_, rfl⟩
        obtain ⟨c1, hc1⟩ : ∃ c1, c1 = c.map (· - 8) := ⟨_, rfl⟩
        rw [← hz1, ← hc1]
        obtain ⟨x, hx⟩ : ∃ x, x = (xs.drop 8).take (getB xs) := ⟨_, rfl⟩
        have hxB : Bytes x := by rw [hx]; exact (hB.drop 8).take _
        have hxl : x.length = getB xs := by rw [hx]; simp; omega
        have ht4 : Bytes (xs.take 4) := hB.take 4
        have hs : getB (xs.drop 4) = sumB (xs.take 4 ++ x) ↔ getB (xs.drop 4) = 4294967295 - crc (crc 4294967295 (xs.take 4)) x := by rw [sumB, crc_append]
        rw [← hx]
        have hcr1 := crc_lt (x := 4294967295) (xs := xs.take 4) (by omega) ht4
        have hcr2 := crc_lt hcr1 hxB
        refine M.go rfl ?_
        refine M.regF (MF.go rfl ?_)
        refine MF.op trivial (SOp.sl (l := 4) (r := xs.length) rfl ⟨_, _, rfl, by omega, rfl⟩ (by rw [hlen]; rfl) (by omega) (by rw [hlen]; omega)) ?_
        rw [u8P_drop, List.take_of_length_le (by rw [u8P_len]; simp)]
        refine MF.go rfl ?_
        refine MF.use0 trivial (fget_spec (z && (u8P xs).isEmpty) (c.map (· - 4)) (xs.drop 4) (hB.drop 4) (by simp; omega)) rfl rfl rfl ?_
        refine MF.go rfl ?_
        refine MF.op trivial (SOp.sl (l := 0) (r := 4) rfl rfl ⟨_, _, rfl, by omega, rfl⟩ (by omega) (by rw [hlen]; omega)) ?_
        rw [List.drop_zero, u8P_take]
        refine MF.go rfl ?_
        refine MF.use0 trivial (more_spec 4294967295 (xs.take 4) (by omega) ht4 (by simp; omega) (z && (u8P xs).isEmpty) (c.map (· - 0))) rfl rfl rfl ?_
        refine MF.go rfl ?_
        refine MF.use0 trivial (more_spec _ x hcr1 hxB (by omega) z1 c1) rfl rfl rfl ?_
        refine MF.go rfl ?_
        rw [bits_notF hcr2]
        have hsame : ∀ {a : Nat} {y : List Int} {z z' : Bool} {c c' : Option Nat}, [XV.c (.p (.int .u32 (a : Nat))), XV.c (.p (.tz z 1 (u8P y) c))].map XV.sv = [XV.c (.p (.int .u32 (4294967295 : Nat))), XV.c (.p (.tz z' 1 (u8P (xs.take 4)) c'))].map XV.sv → a = 4294967295 ∧ y = xs.take 4 := fun {a y z z' c c'} e => by
          simp only [List.map_cons, List.map_nil, XV.sv, XC.sc, PC.sc, List.cons.injEq, SV.c.injEq, SC.int.injEq] at e
          exact ⟨by omega, tz_inj (z := z) (z' := z') (c := c) (c' := c') (by simp only [PC.sc]; exact e.2.1)⟩
        refine MF.nil mixed (Fnl.pairs ?_) rfl (by refine ⟨⟨?_, trivial⟩, trivial⟩; exact SOp.sv (SOp.sl (z := z) (el := u8P xs) (c := c) (l := 0) (r := 4) rfl rfl ⟨_, _, rfl, by omega, rfl⟩ (by omega) (by rw [hlen]; omega)) (by rw [List.drop_zero, u8P_take])) (M.go rfl ?_)
        · intro c2 hc1 d2 hd1 hf ha hh
          simp only [List.mem_cons, List.not_mem_nil, or_false] at hc1 hd1
          rcases hc1 with rfl | rfl | rfl <;> rcases hd1 with rfl | rfl | rfl
          · exact ⟨rfl, rfl⟩
          · obtain ⟨g1, g2⟩ := hsame ha
            exact ⟨by show (XV.c (.p (.int .u32 (crc (crc 4294967295 (xs.take 4)) x : Nat)))).sv = (XV.c (.p (.int .u32 (crc 4294967295 (xs.take 4) : Nat)))).sv; rw [g1, g2, g1], rfl⟩
          · exact absurd (show (100 : Nat) = 120 from hf) (by decide)
          · obtain ⟨g1, g2⟩ := hsame ha.symm
            exact ⟨by show (XV.c (.p (.int .u32 (crc 4294967295 (xs.take 4) : Nat)))).sv = (XV.c (.p (.int .u32 (crc (crc 4294967295 (xs.take 4)) x : Nat)))).sv; rw [g1, g2, g1], rfl⟩
          · exact ⟨rfl, rfl⟩
          · exact absurd (show (100 : Nat) = 120 from hf) (by decide)
          · exact absurd (show (120 : Nat) = 100 from hf) (by decide)
          · exact absurd (show (120 : Nat) = 100 from hf) (by decide)
          · exact ⟨rfl, rfl⟩
        refine M.condN rfl (fun hq => ?_) (fun hq => ?_)
        · rw [if_neg (fun h => hq (by rw [hs.1 h]))]
          refine M.go rfl ?_
          exact M.ret (M.go rfl (M.done (finQ.ret [] rfl rfl rfl (Wk.t2 Wk.nil (Wk.b1 rfl)) (by repeat' (first | exact True.intro | refine hpC rfl rfl rfl ?_ | refine ⟨⟨_, _, _, rfl, rfl, rfl, @WkO.rfl _⟩, ?_⟩ | refine HeapOK.acc rfl rfl ?_)))))
        · rw [if_pos (hs.2 (by have := Int.ofNat.inj hq; omega))]
          refine M.go rfl ?_
          by_cases h0 : x = []
          · subst h0
            refine M.op trivial (SOp.app0 rfl rfl .tz (.inl ⟨_, _, _, _, _, rfl⟩)) ?_
            refine M.go rfl ?_
            refine M.freezeN (i := 2) rfl rfl rfl ?_
            refine M.ren [] ?_ trivial rfl (by repeat' (first | exact True.intro | refine evC rfl rfl Wk.rfl ?_ | refine evC (accV_ren rfl) rfl Wk.rfl ?_ | refine evC (accV_ren rfl) rfl Wk.acc0 ?_ | refine evC rfl rfl Wk.uncap ?_ | refine evC rfl rfl Wk.nil ?_)) (by repeat' (first | exact True.intro | refine hpC rfl rfl rfl ?_ | refine ⟨⟨_, _, _, rfl, rfl, rfl, @WkO.rfl _⟩, ?_⟩ | refine HeapOK.acc rfl rfl ?_)) (e' := [(2, .c (.p (.tz false 1 [] none))), (3, .c (.p (.bool true)))]) (h' := ⟨[], 0⟩)
            exact M.ret (M.go rfl (M.done (finQ.ret [] rfl rfl rfl (Wk.t2 Wk.rfl (Wk.b1 rfl)) (by repeat' (first | exact True.intro | refine hpC rfl rfl rfl ?_ | refine ⟨⟨_, _, _, rfl, rfl, rfl, @WkO.rfl _⟩, ?_⟩ | refine HeapOK.acc rfl rfl ?_)))))
          · have h1 : u8P x ≠ [] := by simpa [u8P] using h0
            refine M.op trivial (SOp.appF (ex := []) rfl rfl rfl (by have := List.length_pos_iff.2 h1; simp; omega) rfl .tz h1 (by rw [u8P_len]; simp; omega)) ?_
            refine M.go rfl ?_
            refine M.freezeN (i := 2) rfl rfl (by simp) ?_
            refine M.ren [] ?_ trivial rfl (by repeat' (first | exact True.intro | refine evC rfl rfl Wk.rfl ?_ | refine evC (accV_ren rfl) rfl Wk.rfl ?_ | refine evC (accV_ren rfl) rfl Wk.acc0 ?_ | refine evC rfl rfl Wk.uncap ?_ | refine evC rfl rfl Wk.nil ?_)) (by repeat' (first | exact True.intro | refine hpC rfl rfl rfl ?_ | refine ⟨⟨_, _, _, rfl, rfl, rfl, @WkO.rfl _⟩, ?_⟩ | refine HeapOK.acc rfl rfl ?_)) (e' := [(2, .c (.p (.tz false 1 (u8P x) none))), (3, .c (.p (.bool true)))]) (h' := ⟨[], 0⟩)
            exact M.ret (M.go rfl (M.done (finQ.ret [] rfl rfl rfl (Wk.t2 Wk.rfl (Wk.b1 rfl)) (by repeat' (first | exact True.intro | refine hpC rfl rfl rfl ?_ | refine ⟨⟨_, _, _, rfl, rfl, rfl, @WkO.rfl _⟩, ?_⟩ | refine HeapOK.acc rfl rfl ?_)))))
end Go.Proofs.Ytjlfojgacnphmaa

namespace Go.Proofs.Ytjlfojgacnphmaa
open Go.RowKit Sim Go Sym
set_option maxRecDepth 100000
set_option linter.unusedVariables false
set_option linter.unusedSimpArgs false
variable {base : Nat}
abbrev FS := List (Nat × List Nat × PC)
def fP (z : Bool) (bs : List Int) (c : Option Nat) : PC := .tz z 1 (u8P bs) c
def fM (F : FS) (c : Nat) : XO := .pm (pK KD.str F) c
noncomputable def lClip : {F : LF // lowerF Try.prog 104 = some F} := ⟨_, rfl⟩
theorem clip_spec (z : Bool) (bs : List Int) (c : Option Nat) : CallS Try.prog base 104 [.c (.p (.tz z 1 (u8P bs) c))] ⟨[], 0⟩ (.c (.p (fP (z && (u8P bs).isEmpty) bs (some bs.length)))) ⟨[], 0⟩ := by
  have hlen : (u8P bs).length = bs.length := u8P_len bs
  refine CallS.of noNG lClip.2 rfl (M.start (M.go rfl ?_))
  refine M.op trivial (SOp.slM (l := 0) (r := bs.length) (m := bs.length) rfl rfl ⟨_, _, rfl, by omega, by omega⟩ ⟨_, _, rfl, by omega, by rw [hlen]; rfl⟩ (by omega) (by omega) (by omega)) ?_
  rw [List.drop_zero, Nat.sub_zero, List.take_of_length_le (by omega)]
  refine M.go rfl ?_
  exact M.ret (M.go rfl (M.done (finQ.ret [] rfl rfl rfl (by first | exact Wk.rfl | exact Wk.uncap | exact Wk.nil | exact Wk.b1 rfl | exact Wk.t2 Wk.rfl (Wk.b1 rfl)) (by repeat' (first | exact True.intro | refine hpC rfl rfl rfl ?_ | refine ⟨⟨_, _, _, rfl, rfl, rfl, @WkO.rfl _⟩, ?_⟩ | refine HeapOK.acc rfl rfl ?_)))))
theorem clip0_spec : CallS Try.prog base 104 [.c (.p (.tz true 0 [] none))] ⟨[], 0⟩ (.c (.p (fP true [] (some 0)))) ⟨[], 0⟩ := by
  refine CallS.of noNG lClip.2 rfl (M.start (M.go rfl ?_))
  refine M.wkO (i := 3) (v' := .c (.p (.tz true 1 [] none))) rfl Wk.nil ?_
  refine M.op trivial (SOp.slM (l := 0) (r := 0) (m := 0) rfl rfl ⟨_, _, rfl, by decide, rfl⟩ ⟨_, _, rfl, by decide, rfl⟩ (by omega) (by omega) (Nat.le_refl _)) ?_
  refine M.go rfl ?_
  exact M.ret (M.go rfl (M.done (finQ.ret [] rfl rfl rfl (by first | exact Wk.rfl | exact Wk.uncap | exact Wk.nil | exact Wk.b1 rfl | exact Wk.t2 Wk.rfl (Wk.b1 rfl)) (by repeat' (first | exact True.intro | refine hpC rfl rfl rfl ?_ | refine ⟨⟨_, _, _, rfl, rfl, rfl, @WkO.rfl _⟩, ?_⟩ | refine HeapOK.acc rfl rfl ?_)))))
noncomputable def lDo : {F : LF // lowerF Try.prog 66 = some F} := ⟨_, rfl⟩
def chX (kd : Int) (name to : List Nat) (b : PC) (n : Int) : List PC := [.int .i64 kd, .str name, .str to, b, .int .i64 n]
def apF (z : Bool) (old new : List Int) : PC := if new = [] then fP z old (some old.length) else fP false (old ++ new) none
theorem do_app (F : FS) (c : Nat) (name to : List Nat) (n : Int) (z : Bool) (old : List Int) (oc : Option Nat) (hold : findP name F = some (fP z old oc)) (zb : Bool) (b : List Int) (cb : Option Nat) (k : Nat) (hk : k ≤ b.length) (ho : old.length ≤ 100000000) (hb : b.length ≤ 100000000) :
    CallS Try.prog base 66 [.c (.mp 0), .agg ((chX 0 name to (fP zb b cb) n).map XC.p), .c (.p (.int .i64 k))] ⟨[(0, some (fM F c))], 1⟩ (.tup []) ⟨[(0, some (fM (updP name (apF (z && (u8P old).isEmpty) old (b.take k)) c F) (updPC name (apF (z && (u8P old).isEmpty) old (b.take k)) c F)))], 1⟩ := by
  have hl1 : (u8P old).length = old.length := u8P_len old
  have hl2 : (u8P b).length = b.length := u8P_len b
  refine CallS.of noNG lDo.2 rfl (M.start ?_)
  refine M.wkH (b0 := 0) rfl rfl (WkO.pmap KD.str) (M.go rfl ?_)
  refine M.cond rfl (fun _ => ?_) (fun hn => absurd (by decide) hn)
  refine M.midV [] ⟨[(0, some (fM (updP name (apF (z && (u8P old).isEmpty) old (b.take k)) c F) (updPC name (apF (z && (u8P old).isEmpty) old (b.take k)) c F)))], 1⟩ ?_ (M.go rfl (M.done (finQ.normal [(0, 0)] rfl rfl rfl Wk.rfl (by repeat' (first | exact True.intro | refine hpC rfl rfl rfl ?_ | refine ⟨⟨_, _, _, rfl, rfl, rfl, @WkO.rfl _⟩, ?_⟩ | refine HeapOK.acc rfl rfl ?_)))))
  refine M.go rfl ?_
  refine M.regF (MF.go rfl ?_)
  refine MF.op trivial (SOp.look (a := name) KD.str rfl rfl rfl) ?_
  rw [show (findK name (pv F)).getD (XV.c (.p (.tz true 0 [] none))) = .c (.p (fP z old oc)) by rw [findK_pv, hold]; rfl]
  refine MF.go rfl ?_
  refine MF.use0 trivial (clip_spec z old oc) rfl rfl rfl ?_
  refine MF.go rfl ?_
  refine MF.op trivial (SOp.sl (l := 0) (r := k) rfl rfl ⟨_, _, rfl, by omega, by omega⟩ (by omega) (by omega)) ?_
  rw [List.drop_zero, Nat.sub_zero, u8P_take]
  obtain ⟨new, hnew⟩ : ∃ new, new = b.take k := ⟨_, rfl⟩
  rw [← hnew]
  have hnl : new.length ≤ b.length := by rw [hnew]; simp; omega
  obtain ⟨z1, hz1⟩ : ∃ z1, z1 = (z && (u8P old).isEmpty) := ⟨_, rfl⟩
  rw [← hz1]
  refine MF.go rfl ?_
  by_cases h0 : new = []
  · rw [apF, if_pos h0]
    refine MF.op trivial (SOp.app0 rfl rfl (by rw [h0]; exact .tz) (.inr ⟨_, _, _, _, rfl⟩)) ?_
    refine MF.go rfl ?_
    refine MF.op trivial (SOp.upd (a := name) KD.str rfl rfl rfl rfl rfl) ?_
    rw [updK_pv, updC_pv]
    refine MF.go rfl ?_
    refine MF.nil mixed (Fnl.nodup rfl) rfl (by refine ⟨⟨stepX_ok rfl, stepX_ok rfl, trivial⟩, ⟨stepX_ok rfl, trivial⟩, ⟨?_, trivial⟩, trivial⟩; exact SOp.sv (SOp.sl (z := zb) (el := u8P b) (c := cb) (l := 0) (r := k) rfl rfl ⟨_, _, rfl, by omega, by omega⟩ (by omega) (by omega)) (by rw [List.drop_zero, Nat.sub_zero, u8P_take, ← hnew])) (M.go rfl ?_)
    exact M.done ⟨rfl, Sh.ren [(0, 0)] rfl (by repeat' (first | exact True.intro | refine evC rfl rfl Wk.rfl ?_ | refine evC (accV_ren rfl) rfl Wk.rfl ?_ | refine evC (accV_ren rfl) rfl Wk.acc0 ?_ | refine evC rfl rfl Wk.uncap ?_ | refine evC rfl rfl Wk.nil ?_)) ⟨⟨_, _, _, rfl, rfl, rfl, WkO.mapp KD.str⟩, trivial⟩⟩
  · rw [apF, if_neg h0]
    have h1 : u8P new ≠ [] := by simpa [u8P] using h0
    have h2 : 0 < new.length := List.length_pos_iff.2 h0
    refine MF.op trivial (SOp.appC rfl rfl .tz h1 (by rw [hl1, u8P_len]; omega) (by rw [hl1, u8P_len]; omega)) ?_
    rw [← u8P_app]
    refine MF.go rfl ?_
    refine MF.op trivial (SOp.upd (a := name) KD.str rfl rfl rfl rfl rfl) ?_
    refine MF.go rfl ?_
    refine MF.nil mixed (Fnl.nodup rfl) rfl (by refine ⟨⟨stepX_ok rfl, stepX_ok rfl, trivial⟩, ⟨stepX_ok rfl, trivial⟩, ⟨?_, trivial⟩, trivial⟩; exact SOp.sv (SOp.sl (z := zb) (el := u8P b) (c := cb) (l := 0) (r := k) rfl rfl ⟨_, _, rfl, by omega, by omega⟩ (by omega) (by omega)) (by rw [List.drop_zero, Nat.sub_zero, u8P_take, ← hnew])) (M.go rfl (M.done ⟨rfl, ?_⟩))
    exact Sh.freezeU KD.str (b0 := 0) (b := 2) (s := 1) (c := none) (ES := F) (ky := name) (c0 := c) (el := u8P (old ++ new)) (m := (u8P old).length + (u8P new).length) rfl rfl rfl (by rw [u8P_app, List.length_append]) (Sh.ren [(0, 0)] rfl (by repeat' (first | exact True.intro | refine evC rfl rfl Wk.rfl ?_ | refine evC (accV_ren rfl) rfl Wk.rfl ?_ | refine evC (accV_ren rfl) rfl Wk.acc0 ?_ | refine evC rfl rfl Wk.uncap ?_ | refine evC rfl rfl Wk.nil ?_)) ⟨⟨_, _, _, rfl, rfl, rfl, WkO.mapp KD.str⟩, trivial⟩)
theorem do_app0 (F : FS) (c : Nat) (name to : List Nat) (n : Int) (hold : findP name F = none) (zb : Bool) (b : List Int) (cb : Option Nat) (k : Nat) (hk : k ≤ b.length) (hb : b.length ≤ 100000000) :
    CallS Try.prog base 66 [.c (.mp 0), .agg ((chX 0 name to (fP zb b cb) n).map XC.p), .c (.p (.int .i64 k))] ⟨[(0, some (fM F c))], 1⟩ (.tup []) ⟨[(0, some (fM (updP name (apF true [] (b.take k)) c F) (updPC name (apF true [] (b.take k)) c F)))], 1⟩ := by
  have hl2 : (u8P b).length = b.length := u8P_len b
  refine CallS.of noNG lDo.2 rfl (M.start ?_)
  refine M.wkH (b0 := 0) rfl rfl (WkO.pmap KD.str) (M.go rfl ?_)
  refine M.cond rfl (fun _ => ?_) (fun hn => absurd (by decide) hn)
  refine M.midV [] ⟨[(0, some (fM (updP name (apF true [] (b.take k)) c F) (updPC name (apF true [] (b.take k)) c F)))], 1⟩ ?_ (M.go rfl (M.done (finQ.normal [(0, 0)] rfl rfl rfl Wk.rfl (by repeat' (first | exact True.intro | refine hpC rfl rfl rfl ?_ | refine ⟨⟨_, _, _, rfl, rfl, rfl, @WkO.rfl _⟩, ?_⟩ | refine HeapOK.acc rfl rfl ?_)))))
  refine M.go rfl ?_
  refine M.regF (MF.go rfl ?_)
  refine MF.op trivial (SOp.look (a := name) KD.str rfl rfl rfl) ?_
  rw [show (findK name (pv F)).getD (XV.c (.p (.tz true 0 [] none))) = .c (.p (.tz true 0 [] none)) by rw [findK_pv, hold]; rfl]
  refine MF.go rfl ?_
  refine MF.use0 trivial clip0_spec rfl rfl rfl ?_
  refine MF.go rfl ?_
  refine MF.op trivial (SOp.sl (l := 0) (r := k) rfl rfl ⟨_, _, rfl, by omega, by omega⟩ (by omega) (by omega)) ?_
  rw [List.drop_zero, Nat.sub_zero, u8P_take]
  obtain ⟨new, hnew⟩ : ∃ new, new = b.take k := ⟨_, rfl⟩
  rw [← hnew]
  have hnl : new.length ≤ b.length := by rw [hnew]; simp; omega
  refine MF.go rfl ?_
  by_cases h0 : new = []
  · rw [apF, if_pos h0]
    refine MF.op trivial (SOp.app0 rfl rfl (by rw [h0]; exact .tz) (.inr ⟨_, _, _, _, rfl⟩)) ?_
    refine MF.go rfl ?_
    refine MF.op trivial (SOp.upd (a := name) KD.str rfl rfl rfl rfl rfl) ?_
    rw [updK_pv, updC_pv]
    refine MF.go rfl ?_
    refine MF.nil mixed (Fnl.nodup rfl) rfl (by refine ⟨⟨stepX_ok rfl, stepX_ok rfl, trivial⟩, ⟨stepX_ok rfl, trivial⟩, ⟨?_, trivial⟩, trivial⟩; exact SOp.sv (SOp.sl (z := zb) (el := u8P b) (c := cb) (l := 0) (r := k) rfl rfl ⟨_, _, rfl, by omega, by omega⟩ (by omega) (by omega)) (by rw [List.drop_zero, Nat.sub_zero, u8P_take, ← hnew])) (M.go rfl ?_)
    exact M.done ⟨rfl, Sh.ren [(0, 0)] rfl (by repeat' (first | exact True.intro | refine evC rfl rfl Wk.rfl ?_ | refine evC (accV_ren rfl) rfl Wk.rfl ?_ | refine evC (accV_ren rfl) rfl Wk.acc0 ?_ | refine evC rfl rfl Wk.uncap ?_ | refine evC rfl rfl Wk.nil ?_)) ⟨⟨_, _, _, rfl, rfl, rfl, WkO.mapp KD.str⟩, trivial⟩⟩
  · rw [apF, if_neg h0]
    have h1 : u8P new ≠ [] := by simpa [u8P] using h0
    have h2 : 0 < new.length := List.length_pos_iff.2 h0
    refine MF.op trivial (SOp.appC (ex := []) rfl rfl .tz h1 (by rw [u8P_len]; simp; omega) (by rw [u8P_len]; simp; omega)) ?_
    rw [List.nil_append, List.length_nil, Nat.zero_add]
    refine MF.go rfl ?_
    refine MF.op trivial (SOp.upd (a := name) KD.str rfl rfl rfl rfl rfl) ?_
    refine MF.go rfl ?_
    refine MF.nil mixed (Fnl.nodup rfl) rfl (by refine ⟨⟨stepX_ok rfl, stepX_ok rfl, trivial⟩, ⟨stepX_ok rfl, trivial⟩, ⟨?_, trivial⟩, trivial⟩; exact SOp.sv (SOp.sl (z := zb) (el := u8P b) (c := cb) (l := 0) (r := k) rfl rfl ⟨_, _, rfl, by omega, by omega⟩ (by omega) (by omega)) (by rw [List.drop_zero, Nat.sub_zero, u8P_take, ← hnew])) (M.go rfl (M.done ⟨rfl, ?_⟩))
    exact Sh.freezeU KD.str (b0 := 0) (b := 2) (s := 1) (c := none) (ES := F) (ky := name) (c0 := c) (el := u8P new) (m := (u8P new).length) rfl rfl rfl rfl (Sh.ren [(0, 0)] rfl (by repeat' (first | exact True.intro | refine evC rfl rfl Wk.rfl ?_ | refine evC (accV_ren rfl) rfl Wk.rfl ?_ | refine evC (accV_ren rfl) rfl Wk.acc0 ?_ | refine evC rfl rfl Wk.uncap ?_ | refine evC rfl rfl Wk.nil ?_)) ⟨⟨_, _, _, rfl, rfl, rfl, WkO.mapp KD.str⟩, trivial⟩)
end Go.Proofs.Ytjlfojgacnphmaa

namespace Go.Proofs.Ytjlfojgacnphmaa
open Go.RowKit Sim Go Sym
set_option maxRecDepth 100000
set_option linter.unusedVariables false
set_option linter.unusedSimpArgs false
variable {base : Nat}
def hD0 (room : Int) (L : FS) (lc : Nat) (F : FS) (c : Nat) : HS := ⟨[(2, some (fM F c)), (1, some (fM L lc)), (0, some (.row [.p (.int .i64 room), .mp 1, .mp 2, .p (.tz true 5 [] none)] true))], 3⟩
def hD1 (a : Nat) (room : Int) (L : FS) (lc : Nat) (F : FS) (c : Nat) (w : PC) (W : List PC) : HS := ⟨[(a, some (.els 5 (w :: W))), (2, some (fM F c)), (1, some (fM L lc)), (0, some (.row [.p (.int .i64 room), .mp 1, .mp 2, .acc a 5 (w :: W)] true))], a + 1⟩
theorem accRow {m : Nat} {x : PC} {l : List PC} (h : m = (x :: l).length) (s b : Nat) : Wk (.c (.sl b 0 m s none)) (.c (.acc b s (x :: l))) := by subst h; exact Wk.of rfl
noncomputable def lRoom : {F : LF // lowerF Try.prog 56 = some F} := ⟨_, rfl⟩
def roomI (n : Int) : Int := minI (maxI n 0) 4194304
theorem room_spec (n : Int) : CallS Try.prog base 56 [.c (.p (.int .i64 n))] ⟨[], 0⟩ (.c (.p (.int .i64 (roomI n)))) ⟨[], 0⟩ := by
  refine CallS.of noNG lRoom.2 rfl (M.start (M.go rfl ?_))
  exact M.ret (M.go rfl (M.done (finQ.ret [] rfl rfl rfl (by first | exact Wk.rfl | exact Wk.uncap | exact Wk.nil | exact Wk.b1 rfl | exact Wk.t2 Wk.rfl (Wk.b1 rfl)) (by repeat' (first | exact True.intro | refine hpC rfl rfl rfl ?_ | refine ⟨⟨_, _, _, rfl, rfl, rfl, @WkO.rfl _⟩, ?_⟩ | refine HeapOK.acc rfl rfl ?_)))))
noncomputable def lDNew : {F : LF // lowerF Try.prog 19 = some F} := ⟨_, rfl⟩
theorem dnew_spec (n : Int) : CallS Try.prog base 19 [.c (.p (.int .i64 n))] ⟨[], 0⟩ (.c (.ptr 0 0)) (hD0 (roomI n) [] 0 [] 0) := by
  refine CallS.of noNG lDNew.2 rfl (M.start (M.go rfl ?_))
  refine M.use0 trivial (room_spec n) rfl rfl rfl ?_
  refine M.go rfl ?_
  refine M.op trivial SOp.mkM ?_
  refine M.op trivial SOp.mkM ?_
  refine M.go rfl ?_
  exact M.ret (M.go rfl (M.done (finQ.ret [(0, 2), (1, 0), (2, 1)] rfl rfl rfl (by first | exact Wk.rfl | exact Wk.uncap | exact Wk.nil | exact Wk.b1 rfl | exact Wk.t2 Wk.rfl (Wk.b1 rfl)) ⟨⟨_, _, _, rfl, rfl, rfl, WkO.mapp KD.str (l := [])⟩, ⟨_, _, _, rfl, rfl, rfl, WkO.mapp KD.str (l := [])⟩, ⟨_, _, _, rfl, rfl, rfl, WkO.row ⟨Wk.rfl, Wk.rfl, Wk.rfl, Wk.nil, trivial⟩⟩, trivial⟩)))
noncomputable def lThr : {F : LF // lowerF Try.prog 71 = some F} := ⟨_, rfl⟩
theorem there0_spec (room : Int) (L : FS) (lc : Nat) (F : FS) (c : Nat) (name : List Nat) : CallS Try.prog base 71 [.c (.ptr 0 0), .c (.p (.str name))] (hD0 room L lc F c) (.c (.p (.bs (findP name F).isSome))) (hD0 room L lc F c) := by
  refine CallS.of noNG lThr.2 rfl (M.start ?_)
  refine M.wkH (b0 := 2) rfl rfl (WkO.pmap KD.str) (M.go rfl ?_)
  refine M.op trivial (SOp.look (a := name) KD.str rfl rfl rfl) ?_
  rw [show (findK name (pv F)).isSome = (findP name F).isSome by rw [findK_pv, Option.isSome_map]]
  refine M.go rfl ?_
  exact M.ret (M.go rfl (M.done (finQ.ret [(0, 0), (1, 1), (2, 2)] rfl rfl rfl (by first | exact Wk.rfl | exact Wk.uncap | exact Wk.nil | exact Wk.b1 rfl | exact Wk.t2 Wk.rfl (Wk.b1 rfl)) ⟨⟨_, _, _, rfl, rfl, rfl, WkO.mapp KD.str⟩, (hpX rfl rfl rfl), (hpX rfl rfl rfl), trivial⟩)))
theorem there1_spec (room : Int) (L : FS) (lc : Nat) (F : FS) (c : Nat) (w : PC) (W : List PC) (name : List Nat) : CallS Try.prog base 71 [.c (.ptr 0 0), .c (.p (.str name))] (hD1 3 room L lc F c w W) (.c (.p (.bs (findP name F).isSome))) (hD1 3 room L lc F c w W) := by
  refine CallS.of noNG lThr.2 rfl (M.start ?_)
  refine M.wkH (b0 := 2) rfl rfl (WkO.pmap KD.str) (M.go rfl ?_)
  refine M.op trivial (SOp.look (a := name) KD.str rfl rfl rfl) ?_
  rw [show (findK name (pv F)).isSome = (findP name F).isSome by rw [findK_pv, Option.isSome_map]]
  refine M.go rfl ?_
  exact M.ret (M.go rfl (M.done (finQ.ret [(0, 0), (1, 1), (2, 2), (3, 3)] rfl rfl rfl (by first | exact Wk.rfl | exact Wk.uncap | exact Wk.nil | exact Wk.b1 rfl | exact Wk.t2 Wk.rfl (Wk.b1 rfl)) ⟨(hpX rfl rfl rfl), ⟨_, _, _, rfl, rfl, rfl, WkO.mapp KD.str⟩, (hpX rfl rfl rfl), (hpX rfl rfl rfl), trivial⟩)))
noncomputable def lChg : {F : LF // lowerF Try.prog 72 = some F} := ⟨_, rfl⟩
theorem chg0_spec (room : Int) (L : FS) (lc : Nat) (F : FS) (c : Nat) (F2 : FS) (c2 : Nat) (kd : Int) (name to : List Nat) (z : Bool) (b : List Int) (cb : Option Nat) (n : Int)
    (hdo : CallS Try.prog base 66 [.c (.mp 0), .agg ((chX kd name to (fP z b cb) n).map XC.p), .c (.p (.int .i64 b.length))] ⟨[(0, some (fM F c))], 1⟩ (.tup []) ⟨[(0, some (fM F2 c2))], 1⟩) :
    CallS Try.prog base 72 [.c (.ptr 0 0), .agg ((chX kd name to (fP z b cb) n).map XC.p)] (hD0 room L lc F c) (.c (.p (.int .i64 0))) (hD1 3 room L lc F2 c2 (.agg (chX kd name to (fP z b cb) n)) []) := by
  have hl : (u8P b).length = b.length := u8P_len b
  refine CallS.of noNG lChg.2 rfl (M.start (M.go rfl ?_))
  refine M.regD (MD.go rfl ?_)
  rw [hl]
  refine MD.use trivial hdo [(0, 2)] rfl rfl rfl (by repeat' (first | exact True.intro | refine hpC rfl rfl rfl ?_ | refine ⟨⟨_, _, _, rfl, rfl, rfl, @WkO.rfl _⟩, ?_⟩ | refine HeapOK.acc rfl rfl ?_)) rfl rfl ?_
  refine MD.go rfl ?_
  refine MD.nil mixed (Fnl.nodup rfl) (M.go rfl ?_)
  refine M.regF (MF.go rfl ?_)
  refine MF.op trivial (SOp.appN rfl rfl (.own rfl rfl) (by simp) (by simp)) ?_
  refine MF.go rfl ?_
  refine MF.nil mixed (Fnl.nodup rfl) rfl ⟨⟨stepX_ok rfl, trivial⟩, trivial⟩ (M.go rfl ?_)
  exact M.ret (M.go rfl (M.done (finQ.ret [(0, 0), (1, 1), (2, 2), (3, 5)] rfl rfl rfl (by first | exact Wk.rfl | exact Wk.uncap | exact Wk.nil | exact Wk.b1 rfl | exact Wk.t2 Wk.rfl (Wk.b1 rfl)) ⟨(hpX rfl rfl rfl), (hpX rfl rfl rfl), (hpX rfl rfl rfl), ⟨_, _, _, rfl, rfl, rfl, WkO.row ⟨Wk.rfl, Wk.rfl, Wk.rfl, accRow rfl 5 5, trivial⟩⟩, trivial⟩)))
theorem chg1_spec (room : Int) (L : FS) (lc : Nat) (F : FS) (c : Nat) (F2 : FS) (c2 : Nat) (w : PC) (W : List PC) (kd : Int) (name to : List Nat) (z : Bool) (b : List Int) (cb : Option Nat) (n : Int) (hW : W.length ≤ 1000000)
    (hdo : CallS Try.prog base 66 [.c (.mp 0), .agg ((chX kd name to (fP z b cb) n).map XC.p), .c (.p (.int .i64 b.length))] ⟨[(0, some (fM F c))], 1⟩ (.tup []) ⟨[(0, some (fM F2 c2))], 1⟩) :
    CallS Try.prog base 72 [.c (.ptr 0 0), .agg ((chX kd name to (fP z b cb) n).map XC.p)] (hD1 3 room L lc F c w W) (.c (.p (.int .i64 0))) (hD1 4 room L lc F2 c2 w (W ++ [.agg (chX kd name to (fP z b cb) n)])) := by
  have hl : (u8P b).length = b.length := u8P_len b
  refine CallS.of noNG lChg.2 rfl (M.start (M.go rfl ?_))
  refine M.regD (MD.go rfl ?_)
  rw [hl]
  refine MD.use trivial hdo [(0, 2)] rfl rfl rfl (by repeat' (first | exact True.intro | refine hpC rfl rfl rfl ?_ | refine ⟨⟨_, _, _, rfl, rfl, rfl, @WkO.rfl _⟩, ?_⟩ | refine HeapOK.acc rfl rfl ?_)) rfl rfl ?_
  refine MD.go rfl ?_
  refine MD.nil mixed (Fnl.nodup rfl) (M.go rfl ?_)
  refine M.regF (MF.go rfl ?_)
  refine MF.op trivial (SOp.appA rfl rfl rfl (.own rfl rfl) (by simp) (by simp; omega)) ?_
  refine MF.go rfl ?_
  refine MF.nil mixed (Fnl.nodup rfl) rfl ⟨⟨stepX_ok rfl, trivial⟩, trivial⟩ (M.go rfl ?_)
  exact M.ret (M.go rfl (M.done (finQ.ret [(0, 0), (1, 1), (2, 2), (3, 3), (4, 6)] rfl rfl rfl (by first | exact Wk.rfl | exact Wk.uncap | exact Wk.nil | exact Wk.b1 rfl | exact Wk.t2 Wk.rfl (Wk.b1 rfl)) ⟨(hpX rfl rfl rfl), (hpX rfl rfl rfl), (hpX rfl rfl rfl), ⟨_, _, _, rfl, rfl, rfl, WkO.row ⟨Wk.rfl, Wk.rfl, Wk.rfl, by first | exact Wk.rfl | exact accRow (by simp) 5 6, trivial⟩⟩, trivial⟩)))
end Go.Proofs.Ytjlfojgacnphmaa

namespace Go.Proofs.Ytjlfojgacnphmaa
open Go.RowKit Sim Go Sym
set_option maxRecDepth 100000
set_option linter.unusedVariables false
set_option linter.unusedSimpArgs false
variable {base : Nat}
def lenP : PC → Nat
  | .tz _ _ el _ => el.length
  | _ => 0
structure FOK (F : FS) (c : Nat) : Prop where
  old : ∀ e ∈ F, e.1 < c
  nd : (F.map (·.1)).Nodup
  f : ∀ e ∈ F, ∃ z bs cp, e.2.2 = fP z bs cp
def usedN (F : FS) : Nat := (F.map fun e => lenP e.2.2).sum
def left (F : FS) (S : List Nat) : FS := F.filter fun e => !(S.any (Nat.beq e.1))
theorem beq_any {S : List Nat} {b : Nat} : S.any (Nat.beq b) = true ↔ b ∈ S := by
  rw [List.any_eq_true]
  constructor
  · rintro ⟨x, hx, h⟩; rw [Nat.beq_eq] at h; subst h; exact hx
  · intro h; exact ⟨b, h, by rw [Nat.beq_eq]⟩
theorem left_cons (e : Nat × List Nat × PC) (F : FS) (S : List Nat) : left (e :: F) S = if e.1 ∈ S then left F S else e :: left F S := by
  simp only [left, List.filter_cons]
  by_cases h : e.1 ∈ S
  · rw [if_pos h, if_neg (by rw [beq_any.2 h]; simp)]
  · rw [if_neg h, if_pos (by have : S.any (Nat.beq e.1) = false := by rw [← Bool.not_eq_true, beq_any]; exact h
                             rw [this]; rfl)]
theorem left_step {F : FS} {S : List Nat} {q : Nat × List Nat × PC} (hn : (F.map (·.1)).Nodup) (hq : q ∈ F) (hs : q.1 ∉ S) : (left F (S ++ [q.1])).length + 1 = (left F S).length ∧ usedN (left F (S ++ [q.1])) + lenP q.2.2 = usedN (left F S) := by
  induction F with
  | nil => cases hq
  | cons e F ih =>
    simp only [List.map_cons, List.nodup_cons] at hn
    rw [left_cons, left_cons]
    rcases List.mem_cons.1 hq with rfl | hq'
    · rw [if_pos (by simp), if_neg hs]
      have : left F (S ++ [q.1]) = left F S := by
        unfold left
        refine List.filter_congr fun x hx => ?_
        have hne : x.1 ≠ q.1 := fun h => hn.1 (List.mem_map.2 ⟨x, hx, h⟩)
        rw [List.any_append]
        have : [q.1].any (Nat.beq x.1) = false := by rw [← Bool.not_eq_true, beq_any]; simpa using hne
        rw [this, Bool.or_false]
      rw [this]
      exact ⟨by simp, by simp [usedN, Nat.add_comm]⟩
    · have h := ih hn.2 hq'
      have hne : e.1 ≠ q.1 := fun h => hn.1 (List.mem_map.2 ⟨q, hq', h.symm⟩)
      by_cases he : e.1 ∈ S
      · rw [if_pos (by simp [he]), if_pos he]; exact h
      · rw [if_neg (by simp [he, hne]), if_neg he]
        refine ⟨by simp only [List.length_cons]; omega, ?_⟩
        have h2 := h.2
        simp only [usedN, List.map_cons, List.sum_cons] at h2 ⊢
        omega
theorem left_nil {F : FS} {S : List Nat} (h : (left F S).length = 0) : (mK KD.str (pv F)).filter (fun e => !(S.any (Nat.beq e.1))) = [] := by
  have h1 : left F S = [] := List.eq_nil_of_length_eq_zero h
  rw [List.filter_eq_nil_iff]
  intro x hx hc
  simp only [mK, pv, List.map_map, List.mem_map, Function.comp] at hx
  obtain ⟨e, he, rfl⟩ := hx
  have : e ∈ left F S := by rw [left, List.mem_filter]; exact ⟨he, hc⟩
  rw [h1] at this; cases this
theorem left_some {F : FS} {S : List Nat} (h : (left F S).length ≠ 0) : (mK KD.str (pv F)).filter (fun e => !(S.any (Nat.beq e.1))) ≠ [] := by
  intro hc
  rw [List.filter_eq_nil_iff] at hc
  have : left F S ≠ [] := fun e => h (by rw [e]; rfl)
  obtain ⟨e, he⟩ := List.exists_mem_of_ne_nil _ this
  rw [left, List.mem_filter] at he
  exact hc (e.1, .p (KD.str.kf e.2.1), .c (.p e.2.2)) (by simp only [mK, pv, List.map_map, List.mem_map, Function.comp]; exact ⟨e, he.1, rfl⟩) he.2
theorem left_all (F : FS) : left F [] = F := by
  unfold left
  rw [List.filter_eq_self]
  intro e he; rfl
theorem rng_cond {es : List (Nat × XC × XV)} {last : Nat} {b : Bool} (h : ∀ q ∈ es, q.1 < last) : (b && !es.isEmpty && es.all (fun e => Nat.ble last e.1)) = false := by
  cases es with
  | nil => simp
  | cons e es =>
    have := h e (by simp)
    have h2 : Nat.ble last e.1 = false := by rw [← Bool.not_eq_true, Nat.ble_eq]; omega
    simp [h2]
theorem mem_mK {F : FS} {q : Nat × XC × XV} (h : q ∈ mK KD.str (pv F)) : ∃ e ∈ F, q = (e.1, .p (KD.str.kf e.2.1), .c (.p e.2.2)) := by
  simp only [mK, pv, List.map_map, List.mem_map, Function.comp] at h
  obtain ⟨e, he, rfl⟩ := h
  exact ⟨e, he, rfl⟩
theorem mK_born (F : FS) : ((mK KD.str (pv F)).map fun e => e.1) = F.map (·.1) := by
  simp only [mK, pv, List.map_map]; rfl
theorem usedN_le_left (F : FS) (S : List Nat) : usedN (left F S) ≤ usedN F := by
  induction F with
  | nil => exact Nat.le_refl _
  | cons e F ih =>
    rw [left_cons]
    split
    · simp only [usedN, List.map_cons, List.sum_cons] at ih ⊢; omega
    · simp only [usedN, List.map_cons, List.sum_cons] at ih ⊢; omega
noncomputable def lUsed : {F : LF // lowerF Try.prog 41 = some F} := ⟨_, rfl⟩
def hU0 (room : Int) (L : FS) (lc : Nat) (F : FS) (c : Nat) (S : List Nat) (last : Nat) : HS := ⟨[(3, some (.iter (some 2) c S last)), (2, some (fM F c)), (1, some (fM L lc)), (0, some (.row [.p (.int .i64 room), .mp 1, .mp 2, .p (.tz true 5 [] none)] true))], 3 + 1⟩
theorem used0_loop (room : Int) (L : FS) (lc : Nat) (F : FS) (c : Nat) (hF : FOK F c) (hu : usedN F ≤ 1000000000000) (Q : QX) (hq : ∀ S, Q (.exit 0) [(3, .c (.p (.int .i64 (usedN F))))] (hU0 room L lc F c S c)) :
    ∀ (m : Nat) (S : List Nat), (left F S).length = m → XH Try.prog base lUsed.1.n 3 (lUsed.1.c.lp 0) [(3, .c (.p (.int .i64 ((usedN F - usedN (left F S) : Nat) : Int)))), (12, .c (.ptr 3 0))] (hU0 room L lc F c S c) Q := by
  intro m
  induction m with
  | zero =>
    intro S hS
    have hz : usedN (left F S) = 0 := by rw [List.eq_nil_of_length_eq_zero hS]; rfl
    rw [hz, Nat.sub_zero]
    refine M.round (M.wkH (b0 := 2) rfl rfl (WkO.pmap KD.str) (M.go rfl ?_))
    refine M.op trivial (SOp.nextN rfl rfl rfl (rng_cond fun q hq => ?_) (left_nil hS)) ?_
    · obtain ⟨e, he, rfl⟩ := mem_mK hq; exact hF.old e he
    refine M.go rfl ?_
    refine M.ren [(0, 0), (1, 1), (2, 2), (3, 3)] ?_ trivial rfl (by repeat' (first | exact True.intro | refine evC rfl rfl Wk.rfl ?_ | refine evC (accV_ren rfl) rfl Wk.rfl ?_ | refine evC (accV_ren rfl) rfl Wk.acc0 ?_ | refine evC rfl rfl Wk.uncap ?_ | refine evC rfl rfl Wk.nil ?_)) ⟨(hpX rfl rfl rfl), ⟨_, _, _, rfl, rfl, rfl, WkO.mapp KD.str⟩, (hpX rfl rfl rfl), (hpX rfl rfl rfl), trivial⟩ (e' := [(3, .c (.p (.int .i64 (usedN F))))]) (h' := hU0 room L lc F c S c)
    exact M.exit (M.go rfl (M.done (hq S)))
  | succ m ih =>
    intro S hS
    refine M.round (M.wkH (b0 := 2) rfl rfl (WkO.pmap KD.str) (M.go rfl ?_))
    refine M.next trivial rfl rfl rfl (rng_cond fun q hq => ?_) (fun q hq => ?_) (left_some (by omega)) fun q hq hs => ?_
    · obtain ⟨e, he, rfl⟩ := mem_mK hq; exact hF.old e he
    · obtain ⟨e, he, rfl⟩ := mem_mK hq; exact hF.old e he
    have hq0 := hq
    obtain ⟨⟨b, nm, v⟩, he, rfl⟩ := mem_mK hq
    obtain ⟨z, bs, cp, hv⟩ := hF.f _ he
    obtain rfl : v = fP z bs cp := hv
    obtain ⟨g1, g2⟩ := left_step hF.nd he hs
    have hlb : lenP (fP z bs cp) = (u8P bs).length := rfl
    simp only [hlb] at g2
    have hle := usedN_le_left F S
    have ih' := ih (S ++ [b]) (by have := g1; simp only at this; omega)
    refine M.go rfl ?_
    refine M.op trivial (SOp.entry rfl rfl rfl hq0 (by rw [mK_born]; exact hF.nd)) ?_
    refine M.go rfl ?_
    rw [wr64 (n := ((usedN F - usedN (left F S) : Nat) : Int) + ((u8P bs).length : Int)) (by omega) (by omega), show ((usedN F - usedN (left F S) : Nat) : Int) + ((u8P bs).length : Int) = ((usedN F - usedN (left F (S ++ [b])) : Nat) : Int) by omega]
    exact M.again (XH.ren [(0, 0), (1, 1), (2, 2), (3, 3)] ih' rfl (by repeat' (first | exact True.intro | refine evC rfl rfl Wk.rfl ?_ | refine evC (accV_ren rfl) rfl Wk.rfl ?_ | refine evC (accV_ren rfl) rfl Wk.acc0 ?_ | refine evC rfl rfl Wk.uncap ?_ | refine evC rfl rfl Wk.nil ?_)) ⟨(hpX rfl rfl rfl), ⟨_, _, _, rfl, rfl, rfl, WkO.mapp KD.str⟩, (hpX rfl rfl rfl), (hpX rfl rfl rfl), trivial⟩)
theorem used0_start (room : Int) (L : FS) (lc : Nat) (F : FS) (c : Nat) (hF : FOK F c) (hu : usedN F ≤ 1000000000000) (Q : QX) (hq : ∀ S, Q (.exit 0) [(3, .c (.p (.int .i64 (usedN F))))] (hU0 room L lc F c S c)) :
    XH Try.prog base lUsed.1.n 3 (lUsed.1.c.lp 0) [(3, .c (.p (.int .i64 ((0 : Nat) : Int)))), (12, .c (.ptr 3 0))] (hU0 room L lc F c [] c) Q := by
  have := used0_loop (base := base) room L lc F c hF hu Q hq _ [] rfl
  rwa [left_all, Nat.sub_self] at this
theorem used0_spec (room : Int) (L : FS) (lc : Nat) (F : FS) (c : Nat) (hF : FOK F c) (hu : usedN F ≤ 1000000000000) : CallS Try.prog base 41 [.c (.ptr 0 0)] (hD0 room L lc F c) (.c (.p (.int .i64 (usedN F)))) (hD0 room L lc F c) := by
  refine CallS.of noNG lUsed.2 rfl (M.start (M.wkH (b0 := 2) rfl rfl (WkO.pmap KD.str) (M.go rfl ?_)))
  refine M.op trivial (SOp.rng rfl rfl) ?_
  refine M.go rfl ?_
  refine M.loop (XH.ren [(0, 0), (1, 1), (2, 2), (3, 3)] (used0_start room L lc F c hF hu _ fun S => ?_) rfl (by repeat' (first | exact True.intro | refine evC rfl rfl Wk.rfl ?_ | refine evC (accV_ren rfl) rfl Wk.rfl ?_ | refine evC (accV_ren rfl) rfl Wk.acc0 ?_ | refine evC rfl rfl Wk.uncap ?_ | refine evC rfl rfl Wk.nil ?_)) ⟨(hpX rfl rfl rfl), ⟨_, _, _, rfl, rfl, rfl, WkO.mapp KD.str⟩, (hpX rfl rfl rfl), (hpX rfl rfl rfl), trivial⟩)
  refine M.q (M.go rfl ?_)
  exact M.ret (M.go rfl (M.done (finQ.ret [(0, 0), (1, 1), (2, 2)] rfl rfl rfl (by first | exact Wk.rfl | exact Wk.uncap | exact Wk.nil | exact Wk.b1 rfl | exact Wk.t2 Wk.rfl (Wk.b1 rfl)) ⟨(hpX rfl rfl rfl), (hpX rfl rfl rfl), (hpX rfl rfl rfl), trivial⟩)))
def hU1 (room : Int) (L : FS) (lc : Nat) (F : FS) (c : Nat) (w : PC) (W : List PC) (S : List Nat) (last : Nat) : HS := ⟨[(4, some (.iter (some 2) c S last)), (3, some (.els 5 (w :: W))), (2, some (fM F c)), (1, some (fM L lc)), (0, some (.row [.p (.int .i64 room), .mp 1, .mp 2, .acc 3 5 (w :: W)] true))], 4 + 1⟩
theorem used1_loop (room : Int) (L : FS) (lc : Nat) (F : FS) (c : Nat) (w : PC) (W : List PC) (hF : FOK F c) (hu : usedN F ≤ 1000000000000) (Q : QX) (hq : ∀ S, Q (.exit 0) [(3, .c (.p (.int .i64 (usedN F))))] (hU1 room L lc F c w W S c)) :
    ∀ (m : Nat) (S : List Nat), (left F S).length = m → XH Try.prog base lUsed.1.n 4 (lUsed.1.c.lp 0) [(3, .c (.p (.int .i64 ((usedN F - usedN (left F S) : Nat) : Int)))), (12, .c (.ptr 4 0))] (hU1 room L lc F c w W S c) Q := by
  intro m
  induction m with
  | zero =>
    intro S hS
    have hz : usedN (left F S) = 0 := by rw [List.eq_nil_of_length_eq_zero hS]; rfl
    rw [hz, Nat.sub_zero]
    refine M.round (M.wkH (b0 := 2) rfl rfl (WkO.pmap KD.str) (M.go rfl ?_))
    refine M.op trivial (SOp.nextN rfl rfl rfl (rng_cond fun q hq => ?_) (left_nil hS)) ?_
    · obtain ⟨e, he, rfl⟩ := mem_mK hq; exact hF.old e he
    refine M.go rfl ?_
    refine M.ren [(0, 0), (1, 1), (2, 2), (3, 3), (4, 4)] ?_ trivial rfl (by repeat' (first | exact True.intro | refine evC rfl rfl Wk.rfl ?_ | refine evC (accV_ren rfl) rfl Wk.rfl ?_ | refine evC (accV_ren rfl) rfl Wk.acc0 ?_ | refine evC rfl rfl Wk.uncap ?_ | refine evC rfl rfl Wk.nil ?_)) ⟨(hpX rfl rfl rfl), (hpX rfl rfl rfl), ⟨_, _, _, rfl, rfl, rfl, WkO.mapp KD.str⟩, (hpX rfl rfl rfl), (hpX rfl rfl rfl), trivial⟩ (e' := [(3, .c (.p (.int .i64 (usedN F))))]) (h' := hU1 room L lc F c w W S c)
    exact M.exit (M.go rfl (M.done (hq S)))
  | succ m ih =>
    intro S hS
    refine M.round (M.wkH (b0 := 2) rfl rfl (WkO.pmap KD.str) (M.go rfl ?_))
    refine M.next trivial rfl rfl rfl (rng_cond fun q hq => ?_) (fun q hq => ?_) (left_some (by omega)) fun q hq hs => ?_
    · obtain ⟨e, he, rfl⟩ := mem_mK hq; exact hF.old e he
    · obtain ⟨e, he, rfl⟩ := mem_mK hq; exact hF.old e he
    have hq0 := hq
    obtain ⟨⟨b, nm, v⟩, he, rfl⟩ := mem_mK hq
    obtain ⟨z, bs, cp, hv⟩ := hF.f _ he
    obtain rfl : v = fP z bs cp := hv
    obtain ⟨g1, g2⟩ := left_step hF.nd he hs
    have hlb : lenP (fP z bs cp) = (u8P bs).length := rfl
    simp only [hlb] at g2
    have hle := usedN_le_left F S
    have ih' := ih (S ++ [b]) (by have := g1; simp only at this; omega)
    refine M.go rfl ?_
    refine M.op trivial (SOp.entry rfl rfl rfl hq0 (by rw [mK_born]; exact hF.nd)) ?_
    refine M.go rfl ?_
    rw [wr64 (n := ((usedN F - usedN (left F S) : Nat) : Int) + ((u8P bs).length : Int)) (by omega) (by omega), show ((usedN F - usedN (left F S) : Nat) : Int) + ((u8P bs).length : Int) = ((usedN F - usedN (left F (S ++ [b])) : Nat) : Int) by omega]
    exact M.again (XH.ren [(0, 0), (1, 1), (2, 2), (3, 3), (4, 4)] ih' rfl (by repeat' (first | exact True.intro | refine evC rfl rfl Wk.rfl ?_ | refine evC (accV_ren rfl) rfl Wk.rfl ?_ | refine evC (accV_ren rfl) rfl Wk.acc0 ?_ | refine evC rfl rfl Wk.uncap ?_ | refine evC rfl rfl Wk.nil ?_)) ⟨(hpX rfl rfl rfl), (hpX rfl rfl rfl), ⟨_, _, _, rfl, rfl, rfl, WkO.mapp KD.str⟩, (hpX rfl rfl rfl), (hpX rfl rfl rfl), trivial⟩)
theorem used1_start (room : Int) (L : FS) (lc : Nat) (F : FS) (c : Nat) (w : PC) (W : List PC) (hF : FOK F c) (hu : usedN F ≤ 1000000000000) (Q : QX) (hq : ∀ S, Q (.exit 0) [(3, .c (.p (.int .i64 (usedN F))))] (hU1 room L lc F c w W S c)) :
    XH Try.prog base lUsed.1.n 4 (lUsed.1.c.lp 0) [(3, .c (.p (.int .i64 ((0 : Nat) : Int)))), (12, .c (.ptr 4 0))] (hU1 room L lc F c w W [] c) Q := by
  have := used1_loop (base := base) room L lc F c w W hF hu Q hq _ [] rfl
  rwa [left_all, Nat.sub_self] at this
theorem used1_spec (room : Int) (L : FS) (lc : Nat) (F : FS) (c : Nat) (w : PC) (W : List PC) (hF : FOK F c) (hu : usedN F ≤ 1000000000000) : CallS Try.prog base 41 [.c (.ptr 0 0)] (hD1 3 room L lc F c w W) (.c (.p (.int .i64 (usedN F)))) (hD1 3 room L lc F c w W) := by
  refine CallS.of noNG lUsed.2 rfl (M.start (M.wkH (b0 := 2) rfl rfl (WkO.pmap KD.str) (M.go rfl ?_)))
  refine M.op trivial (SOp.rng rfl rfl) ?_
  refine M.go rfl ?_
  refine M.loop (XH.ren [(0, 0), (1, 1), (2, 2), (3, 3), (4, 4)] (used1_start room L lc F c w W hF hu _ fun S => ?_) rfl (by repeat' (first | exact True.intro | refine evC rfl rfl Wk.rfl ?_ | refine evC (accV_ren rfl) rfl Wk.rfl ?_ | refine evC (accV_ren rfl) rfl Wk.acc0 ?_ | refine evC rfl rfl Wk.uncap ?_ | refine evC rfl rfl Wk.nil ?_)) ⟨(hpX rfl rfl rfl), (hpX rfl rfl rfl), ⟨_, _, _, rfl, rfl, rfl, WkO.mapp KD.str⟩, (hpX rfl rfl rfl), (hpX rfl rfl rfl), trivial⟩)
  refine M.q (M.go rfl ?_)
  exact M.ret (M.go rfl (M.done (finQ.ret [(0, 0), (1, 1), (2, 2), (3, 3)] rfl rfl rfl (by first | exact Wk.rfl | exact Wk.uncap | exact Wk.nil | exact Wk.b1 rfl | exact Wk.t2 Wk.rfl (Wk.b1 rfl)) ⟨(hpX rfl rfl rfl), (hpX rfl rfl rfl), (hpX rfl rfl rfl), (hpX rfl rfl rfl), trivial⟩)))
end Go.Proofs.Ytjlfojgacnphmaa

namespace Go.Proofs.Ytjlfojgacnphmaa
open Go.RowKit Sim Go Sym
set_option maxRecDepth 100000
set_option linter.unusedVariables false
set_option linter.unusedSimpArgs false
variable {base : Nat}
noncomputable def lDAp : {F : LF // lowerF Try.prog 33 = some F} := ⟨_, rfl⟩
theorem maxKey (F : FS) : ((mK KD.str (pv F)).length : Int) = F.length := by simp [mK, pv]
theorem append0_spec (room : Int) (L : FS) (lc : Nat) (F : FS) (c : Nat) (name : List Nat) (zb : Bool) (b : List Int) (cb : Option Nat) (hm : CallS Try.prog base 70 [.c (.p (.str name))] ⟨[], 0⟩ (.c (.p (.bool true))) ⟨[], 0⟩) (hF : FOK F c) (hr : room ≤ 100000000000) (hroom : ((usedN F + b.length : Nat) : Int) ≤ room) (hfile : (findP name F).isSome = true ∨ F.length < 64) (F2 : FS) (c2 : Nat)
    (hdo : CallS Try.prog base 66 [.c (.mp 0), .agg ((chX 0 name [] (fP zb b none) 0).map XC.p), .c (.p (.int .i64 b.length))] ⟨[(0, some (fM F c))], 1⟩ (.tup []) ⟨[(0, some (fM F2 c2))], 1⟩) :
    CallS Try.prog base 33 [.c (.ptr 0 0), .c (.p (.str name)), .c (.p (.tz zb 1 (u8P b) cb))] (hD0 room L lc F c) (.c (.p (.int .i64 0))) (hD1 3 room L lc F2 c2 (.agg (chX 0 name [] (fP zb b none) 0)) []) := by
  have hlb : (u8P b).length = b.length := u8P_len b
  refine CallS.of noNG lDAp.2 rfl (M.start (M.go rfl ?_))
  refine M.use0 trivial hm rfl rfl rfl ?_
  refine M.go rfl ?_
  refine M.regF (MF.go rfl ?_)
  refine MF.use trivial (used0_spec room L lc F c hF (by omega)) [(0, 0), (1, 1), (2, 2)] rfl rfl rfl (by repeat' (first | exact True.intro | refine hpC rfl rfl rfl ?_ | refine ⟨⟨_, _, _, rfl, rfl, rfl, @WkO.rfl _⟩, ?_⟩ | refine HeapOK.acc rfl rfl ?_)) rfl rfl ?_
  refine MF.go rfl ?_
  rw [hlb]
  refine MF.nil mixed (Fnl.nodup rfl) rfl ⟨⟨stepX_ok (by rw [← hlb]; rfl), trivial⟩, ⟨stepX_ok rfl, trivial⟩, trivial⟩ (M.go rfl ?_)
  rw [wr64 (n := room - (usedN F : Int)) (by omega) (by omega)]
  refine M.cond rfl (fun hn => absurd hn (by omega)) (fun _ => ?_)
  refine M.go rfl ?_
  refine M.use trivial (there0_spec room L lc F c name) [(0, 0), (1, 1), (2, 2)] rfl rfl rfl (by repeat' (first | exact True.intro | refine hpC rfl rfl rfl ?_ | refine ⟨⟨_, _, _, rfl, rfl, rfl, @WkO.rfl _⟩, ?_⟩ | refine HeapOK.acc rfl rfl ?_)) rfl rfl ?_
  refine M.go rfl ?_
  refine M.decB rfl (fun hh => ?_) (fun hh => ?_)
  · refine M.go rfl ?_
    refine M.shO (Sh.wkH (b0 := 2) rfl rfl (WkO.pmap KD.str) Sh.refl) ?_
    refine M.op (by first | exact True.intro | exact rfl) (SOp.lenM rfl rfl) ?_
    refine M.shO (Sh.wkH (b0 := 2) rfl rfl (WkO.mapp KD.str) Sh.refl) ?_
    rw [maxKey]
    refine M.go rfl ?_
    refine M.cond rfl (fun hn => absurd hn (hfile.elim (fun h => by rw [h] at hh; cases hh) (fun h => by omega))) (fun _ => ?_)
    refine M.go rfl ?_
    refine M.use0 trivial (bcl_spec zb (u8P b) cb (by omega)) rfl rfl rfl ?_
    refine M.go rfl ?_
    refine M.use trivial (chg0_spec room L lc F c F2 c2 0 name [] zb b none 0 hdo) [(0, 0), (1, 1), (2, 2)] rfl rfl rfl (by repeat' (first | exact True.intro | refine hpC rfl rfl rfl ?_ | refine ⟨⟨_, _, _, rfl, rfl, rfl, @WkO.rfl _⟩, ?_⟩ | refine HeapOK.acc rfl rfl ?_)) rfl rfl ?_
    refine M.go rfl ?_
    exact M.ret (M.go rfl (M.done (finQ.ret [(0, 0), (1, 1), (2, 2), (3, 3)] rfl rfl rfl (by first | exact Wk.rfl | exact Wk.uncap | exact Wk.nil | exact Wk.b1 rfl | exact Wk.t2 Wk.rfl (Wk.b1 rfl)) (by repeat' (first | exact True.intro | refine hpC rfl rfl rfl ?_ | refine ⟨⟨_, _, _, rfl, rfl, rfl, @WkO.rfl _⟩, ?_⟩ | refine HeapOK.acc rfl rfl ?_)))))
  · refine M.go rfl ?_
    refine M.use0 trivial (bcl_spec zb (u8P b) cb (by omega)) rfl rfl rfl ?_
    refine M.go rfl ?_
    refine M.use trivial (chg0_spec room L lc F c F2 c2 0 name [] zb b none 0 hdo) [(0, 0), (1, 1), (2, 2)] rfl rfl rfl (by repeat' (first | exact True.intro | refine hpC rfl rfl rfl ?_ | refine ⟨⟨_, _, _, rfl, rfl, rfl, @WkO.rfl _⟩, ?_⟩ | refine HeapOK.acc rfl rfl ?_)) rfl rfl ?_
    refine M.go rfl ?_
    exact M.ret (M.go rfl (M.done (finQ.ret [(0, 0), (1, 1), (2, 2), (3, 3)] rfl rfl rfl (by first | exact Wk.rfl | exact Wk.uncap | exact Wk.nil | exact Wk.b1 rfl | exact Wk.t2 Wk.rfl (Wk.b1 rfl)) (by repeat' (first | exact True.intro | refine hpC rfl rfl rfl ?_ | refine ⟨⟨_, _, _, rfl, rfl, rfl, @WkO.rfl _⟩, ?_⟩ | refine HeapOK.acc rfl rfl ?_)))))
theorem append1_spec (room : Int) (L : FS) (lc : Nat) (F : FS) (c : Nat) (w : PC) (W : List PC) (hW : W.length ≤ 1000000) (name : List Nat) (zb : Bool) (b : List Int) (cb : Option Nat) (hm : CallS Try.prog base 70 [.c (.p (.str name))] ⟨[], 0⟩ (.c (.p (.bool true))) ⟨[], 0⟩) (hF : FOK F c) (hr : room ≤ 100000000000) (hroom : ((usedN F + b.length : Nat) : Int) ≤ room) (hfile : (findP name F).isSome = true ∨ F.length < 64) (F2 : FS) (c2 : Nat)
    (hdo : CallS Try.prog base 66 [.c (.mp 0), .agg ((chX 0 name [] (fP zb b none) 0).map XC.p), .c (.p (.int .i64 b.length))] ⟨[(0, some (fM F c))], 1⟩ (.tup []) ⟨[(0, some (fM F2 c2))], 1⟩) :
    CallS Try.prog base 33 [.c (.ptr 0 0), .c (.p (.str name)), .c (.p (.tz zb 1 (u8P b) cb))] (hD1 3 room L lc F c w W) (.c (.p (.int .i64 0))) (hD1 4 room L lc F2 c2 w (W ++ [.agg (chX 0 name [] (fP zb b none) 0)])) := by
  have hlb : (u8P b).length = b.length := u8P_len b
  refine CallS.of noNG lDAp.2 rfl (M.start (M.go rfl ?_))
  refine M.use0 trivial hm rfl rfl rfl ?_
  refine M.go rfl ?_
  refine M.regF (MF.go rfl ?_)
  refine MF.use trivial (used1_spec room L lc F c w W hF (by omega)) [(0, 0), (1, 1), (2, 2), (3, 3)] rfl rfl rfl (by repeat' (first | exact True.intro | refine hpC rfl rfl rfl ?_ | refine ⟨⟨_, _, _, rfl, rfl, rfl, @WkO.rfl _⟩, ?_⟩ | refine HeapOK.acc rfl rfl ?_)) rfl rfl ?_
  refine MF.go rfl ?_
  rw [hlb]
  refine MF.nil mixed (Fnl.nodup rfl) rfl ⟨⟨stepX_ok (by rw [← hlb]; rfl), trivial⟩, ⟨stepX_ok rfl, trivial⟩, trivial⟩ (M.go rfl ?_)
  rw [wr64 (n := room - (usedN F : Int)) (by omega) (by omega)]
  refine M.cond rfl (fun hn => absurd hn (by omega)) (fun _ => ?_)
  refine M.go rfl ?_
  refine M.use trivial (there1_spec room L lc F c w W name) [(0, 0), (1, 1), (2, 2), (3, 3)] rfl rfl rfl (by repeat' (first | exact True.intro | refine hpC rfl rfl rfl ?_ | refine ⟨⟨_, _, _, rfl, rfl, rfl, @WkO.rfl _⟩, ?_⟩ | refine HeapOK.acc rfl rfl ?_)) rfl rfl ?_
  refine M.go rfl ?_
  refine M.decB rfl (fun hh => ?_) (fun hh => ?_)
  · refine M.go rfl ?_
    refine M.shO (Sh.wkH (b0 := 2) rfl rfl (WkO.pmap KD.str) Sh.refl) ?_
    refine M.op (by first | exact True.intro | exact rfl) (SOp.lenM rfl rfl) ?_
    refine M.shO (Sh.wkH (b0 := 2) rfl rfl (WkO.mapp KD.str) Sh.refl) ?_
    rw [maxKey]
    refine M.go rfl ?_
    refine M.cond rfl (fun hn => absurd hn (hfile.elim (fun h => by rw [h] at hh; cases hh) (fun h => by omega))) (fun _ => ?_)
    refine M.go rfl ?_
    refine M.use0 trivial (bcl_spec zb (u8P b) cb (by omega)) rfl rfl rfl ?_
    refine M.go rfl ?_
    refine M.use trivial (chg1_spec room L lc F c F2 c2 w W 0 name [] zb b none 0 hW hdo) [(0, 0), (1, 1), (2, 2), (3, 3)] rfl rfl rfl (by repeat' (first | exact True.intro | refine hpC rfl rfl rfl ?_ | refine ⟨⟨_, _, _, rfl, rfl, rfl, @WkO.rfl _⟩, ?_⟩ | refine HeapOK.acc rfl rfl ?_)) rfl rfl ?_
    refine M.go rfl ?_
    exact M.ret (M.go rfl (M.done (finQ.ret [(0, 0), (1, 1), (2, 2), (3, 3), (4, 4)] rfl rfl rfl (by first | exact Wk.rfl | exact Wk.uncap | exact Wk.nil | exact Wk.b1 rfl | exact Wk.t2 Wk.rfl (Wk.b1 rfl)) (by repeat' (first | exact True.intro | refine hpC rfl rfl rfl ?_ | refine ⟨⟨_, _, _, rfl, rfl, rfl, @WkO.rfl _⟩, ?_⟩ | refine HeapOK.acc rfl rfl ?_)))))
  · refine M.go rfl ?_
    refine M.use0 trivial (bcl_spec zb (u8P b) cb (by omega)) rfl rfl rfl ?_
    refine M.go rfl ?_
    refine M.use trivial (chg1_spec room L lc F c F2 c2 w W 0 name [] zb b none 0 hW hdo) [(0, 0), (1, 1), (2, 2), (3, 3)] rfl rfl rfl (by repeat' (first | exact True.intro | refine hpC rfl rfl rfl ?_ | refine ⟨⟨_, _, _, rfl, rfl, rfl, @WkO.rfl _⟩, ?_⟩ | refine HeapOK.acc rfl rfl ?_)) rfl rfl ?_
    refine M.go rfl ?_
    exact M.ret (M.go rfl (M.done (finQ.ret [(0, 0), (1, 1), (2, 2), (3, 3), (4, 4)] rfl rfl rfl (by first | exact Wk.rfl | exact Wk.uncap | exact Wk.nil | exact Wk.b1 rfl | exact Wk.t2 Wk.rfl (Wk.b1 rfl)) (by repeat' (first | exact True.intro | refine hpC rfl rfl rfl ?_ | refine ⟨⟨_, _, _, rfl, rfl, rfl, @WkO.rfl _⟩, ?_⟩ | refine HeapOK.acc rfl rfl ?_)))))
end Go.Proofs.Ytjlfojgacnphmaa

namespace Go.Proofs.Ytjlfojgacnphmaa
open Go.RowKit Sim Go Sym
set_option maxRecDepth 100000
set_option linter.unusedVariables false
set_option linter.unusedSimpArgs false
variable {base : Nat}
noncomputable def lMCl : {F : LF // lowerF Try.prog 65 = some F} := ⟨_, rfl⟩
theorem mclone_spec (F : FS) (c : Nat) : CallS Try.prog base 65 [.c (.mp 0)] ⟨[(0, some (fM F c))], 1⟩ (.c (.mp 1)) ⟨[(1, some (fM F c)), (0, some (fM F c))], 2⟩ := by
  refine CallS.of noNG lMCl.2 rfl (M.start (M.wkH (b0 := 0) rfl rfl (WkO.pmap KD.str) (M.go rfl ?_)))
  refine M.op trivial (SOp.ifc rfl) ?_
  refine M.op trivial (SOp.cln rfl rfl) ?_
  refine M.op trivial (SOp.asrt rfl) ?_
  refine M.go rfl ?_
  exact M.ret (M.go rfl (M.done (finQ.ret [(0, 0), (1, 1)] rfl rfl rfl (by first | exact Wk.rfl | exact Wk.uncap | exact Wk.nil | exact Wk.b1 rfl | exact Wk.t2 Wk.rfl (Wk.b1 rfl)) ⟨⟨_, _, _, rfl, rfl, rfl, WkO.mapp KD.str⟩, ⟨_, _, _, rfl, rfl, rfl, WkO.mapp KD.str⟩, trivial⟩)))
def hDS (bl : Nat) (room : Int) (L : FS) (lc : Nat) (F : FS) (c : Nat) : HS := ⟨[(bl, some (fM L lc)), (2, some (fM F c)), (0, some (.row [.p (.int .i64 room), .mp bl, .mp 2, .p (.tz true 5 [] none)] true))], bl + 1⟩
noncomputable def lSync : {F : LF // lowerF Try.prog 35 = some F} := ⟨_, rfl⟩
theorem sync0_spec (room : Int) (L : FS) (lc : Nat) (F : FS) (c : Nat) : CallS Try.prog base 35 [.c (.ptr 0 0)] (hD0 room L lc F c) (.tup []) (hDS 3 room F c F c) := by
  refine CallS.of noNG lSync.2 rfl (M.start (M.go rfl ?_))
  refine M.use trivial (mclone_spec F c) [(0, 2)] rfl rfl rfl (by repeat' (first | exact True.intro | refine hpC rfl rfl rfl ?_ | refine ⟨⟨_, _, _, rfl, rfl, rfl, @WkO.rfl _⟩, ?_⟩ | refine HeapOK.acc rfl rfl ?_)) rfl rfl ?_
  refine M.go rfl ?_
  exact M.done (finQ.normal [(0, 0), (1, 1), (2, 2), (3, 3)] rfl rfl rfl Wk.rfl ⟨(hpX rfl rfl rfl), (hpX rfl rfl rfl), ⟨_, _, _, rfl, rfl, rfl, WkO.row ⟨Wk.rfl, Wk.rfl, Wk.rfl, Wk.nil, trivial⟩⟩, trivial⟩)
theorem sync1_spec (room : Int) (L : FS) (lc : Nat) (F : FS) (c : Nat) (w : PC) (W : List PC) : CallS Try.prog base 35 [.c (.ptr 0 0)] (hD1 3 room L lc F c w W) (.tup []) (hDS 4 room F c F c) := by
  refine CallS.of noNG lSync.2 rfl (M.start (M.go rfl ?_))
  refine M.use trivial (mclone_spec F c) [(0, 2)] rfl rfl rfl (by repeat' (first | exact True.intro | refine hpC rfl rfl rfl ?_ | refine ⟨⟨_, _, _, rfl, rfl, rfl, @WkO.rfl _⟩, ?_⟩ | refine HeapOK.acc rfl rfl ?_)) rfl rfl ?_
  refine M.go rfl ?_
  exact M.done (finQ.normal [(0, 0), (1, 1), (2, 2), (3, 3), (4, 4)] rfl rfl rfl Wk.rfl ⟨(hpX rfl rfl rfl), (hpX rfl rfl rfl), ⟨_, _, _, rfl, rfl, rfl, WkO.row ⟨Wk.rfl, Wk.rfl, Wk.rfl, Wk.nil, trivial⟩⟩, trivial⟩)
noncomputable def lDRd : {F : LF // lowerF Try.prog 36 = some F} := ⟨_, rfl⟩
theorem read0_spec (room : Int) (L : FS) (lc : Nat) (F : FS) (c : Nat) (name : List Nat) (z : Bool) (bs : List Int) (cp : Option Nat) (hf : findP name F = some (fP z bs cp)) (hl : bs.length ≤ 1000000000) : CallS Try.prog base 36 [.c (.ptr 0 0), .c (.p (.str name))] (hD0 room L lc F c) (.tup [.c (.p (fP z bs none)), .c (.p (.bool true))]) (hD0 room L lc F c) := by
  refine CallS.of noNG lDRd.2 rfl (M.start (M.wkH (b0 := 2) rfl rfl (WkO.pmap KD.str) (M.go rfl ?_)))
  refine M.op trivial (SOp.look (a := name) KD.str rfl rfl rfl) ?_
  rw [findK_pv, hf]
  refine M.go rfl ?_
  refine M.use0 trivial (bcl_spec z (u8P bs) cp (by rw [u8P_len]; omega)) rfl rfl rfl ?_
  refine M.go rfl ?_
  exact M.ret (M.go rfl (M.done (finQ.ret [(0, 0), (1, 1), (2, 2)] rfl rfl rfl (Wk.t2 Wk.rfl (Wk.b1 rfl)) ⟨⟨_, _, _, rfl, rfl, rfl, WkO.mapp KD.str⟩, (hpX rfl rfl rfl), (hpX rfl rfl rfl), trivial⟩)))
noncomputable def lDRm : {F : LF // lowerF Try.prog 40 = some F} := ⟨_, rfl⟩
end Go.Proofs.Ytjlfojgacnphmaa

namespace Go.Proofs.Ytjlfojgacnphmaa
open Go.RowKit Sim Go Sym
set_option maxRecDepth 100000
set_option linter.unusedVariables false
set_option linter.unusedSimpArgs false
variable {base : Nat}
def cutF (z : Bool) (old : List Int) (k : Nat) : PC := fP (z && (u8P old).isEmpty) (old.take k) (some k)
theorem do_cut (F : FS) (c : Nat) (name to : List Nat) (n : Nat) (z : Bool) (old : List Int) (oc : Option Nat) (hold : findP name F = some (fP z old oc)) (hn : n ≤ old.length) (b : PC) (k : Int) :
    CallS Try.prog base 66 [.c (.mp 0), .agg ((chX 1 name to b n).map XC.p), .c (.p (.int .i64 k))] ⟨[(0, some (fM F c))], 1⟩ (.tup []) ⟨[(0, some (fM (updP name (cutF z old n) c F) (updPC name (cutF z old n) c F)))], 1⟩ := by
  have hl1 : (u8P old).length = old.length := u8P_len old
  refine CallS.of noNG lDo.2 rfl (M.start ?_)
  refine M.wkH (b0 := 0) rfl rfl (WkO.pmap KD.str) (M.go rfl ?_)
  refine M.cond rfl (fun hn => absurd hn (by decide)) (fun _ => ?_)
  refine M.go rfl ?_
  refine M.cond rfl (fun _ => ?_) (fun hn => absurd (by decide) hn)
  refine M.go rfl ?_
  refine M.regD (MD.go rfl ?_)
  refine MD.op trivial (SOp.look (a := name) KD.str rfl rfl rfl) ?_
  rw [show (findK name (pv F)).getD (XV.c (.p (.tz true 0 [] none))) = .c (.p (fP z old oc)) by rw [findK_pv, hold]; rfl]
  refine MD.go rfl ?_
  refine MD.op trivial (SOp.slM (l := 0) (r := n) (m := n) rfl rfl ⟨_, _, rfl, by omega, by omega⟩ ⟨_, _, rfl, by omega, rfl⟩ (by omega) (by omega) (by rw [hl1]; omega)) ?_
  rw [List.drop_zero, Nat.sub_zero, u8P_take]
  refine MD.go rfl ?_
  refine MD.op trivial (SOp.upd (a := name) KD.str rfl rfl rfl rfl rfl) ?_
  rw [updK_pv, updC_pv]
  refine MD.go rfl ?_
  refine MD.nil mixed (Fnl.nodup rfl) (M.go rfl ?_)
  exact M.done (finQ.normal [(0, 0)] rfl rfl rfl Wk.rfl ⟨⟨_, _, _, rfl, rfl, rfl, WkO.mapp KD.str⟩, trivial⟩)
noncomputable def lDCt : {F : LF // lowerF Try.prog 39 = some F} := ⟨_, rfl⟩
theorem cut0_spec (room : Int) (L : FS) (lc : Nat) (F : FS) (c : Nat) (name : List Nat) (n : Nat) (z : Bool) (old : List Int) (oc : Option Nat) (hold : findP name F = some (fP z old oc)) (hn : n ≤ old.length) :
    CallS Try.prog base 39 [.c (.ptr 0 0), .c (.p (.str name)), .c (.p (.int .i64 n))] (hD0 room L lc F c) (.c (.p (.int .i64 0))) (hD1 3 room L lc (updP name (cutF z old n) c F) (updPC name (cutF z old n) c F) (.agg (chX 1 name [] (fP true [] none) n)) []) := by
  have hl1 : (u8P old).length = old.length := u8P_len old
  refine CallS.of noNG lDCt.2 rfl (M.start (M.go rfl ?_))
  refine M.use trivial (there0_spec room L lc F c name) [(0, 0), (1, 1), (2, 2)] rfl rfl rfl (by repeat' (first | exact True.intro | refine hpC rfl rfl rfl ?_ | refine ⟨⟨_, _, _, rfl, rfl, rfl, @WkO.rfl _⟩, ?_⟩ | refine HeapOK.acc rfl rfl ?_)) rfl rfl ?_
  rw [hold]
  refine M.go rfl ?_
  refine M.condB rfl (fun hn => by cases hn) (fun _ => ?_)
  refine M.go rfl ?_
  refine M.dec rfl (fun hn => absurd hn (by omega)) (fun _ => ?_)
  refine M.go rfl ?_
  refine M.shO (Sh.wkH (b0 := 2) rfl rfl (WkO.pmap KD.str) Sh.refl) ?_
  refine M.op (by first | exact True.intro | exact rfl) (SOp.look (a := name) KD.str rfl rfl rfl) ?_
  rw [show (findK name (pv F)).getD (XV.c (.p (.tz true 0 [] none))) = .c (.p (fP z old oc)) by rw [findK_pv, hold]; rfl, show lookV false (XV.c (.p (fP z old oc))) (findK name (pv F)).isSome = .c (.p (fP z old oc)) from rfl]
  refine M.shO (Sh.wkH (b0 := 2) rfl rfl (WkO.mapp KD.str) Sh.refl) ?_
  refine M.go rfl ?_
  refine M.cond rfl (fun hn => absurd hn (by rw [hl1]; omega)) (fun _ => ?_)
  refine M.go rfl ?_
  refine M.wkO (i := 32) (v' := .agg ((chX 1 name [] (fP true [] none) n).map XC.p)) rfl (Wk.of rfl) ?_
  refine M.use trivial (chg0_spec room L lc F c _ _ 1 name [] true [] none n (do_cut F c name [] n z old oc hold hn (fP true [] none) (([] : List Int).length : Int))) [(0, 0), (1, 1), (2, 2)] rfl rfl rfl (by repeat' (first | exact True.intro | refine hpC rfl rfl rfl ?_ | refine ⟨⟨_, _, _, rfl, rfl, rfl, @WkO.rfl _⟩, ?_⟩ | refine HeapOK.acc rfl rfl ?_)) rfl rfl ?_
  refine M.go rfl ?_
  exact M.ret (M.go rfl (M.done (finQ.ret [(0, 0), (1, 1), (2, 2), (3, 3)] rfl rfl rfl (by first | exact Wk.rfl | exact Wk.uncap | exact Wk.nil | exact Wk.b1 rfl | exact Wk.t2 Wk.rfl (Wk.b1 rfl)) (by repeat' (first | exact True.intro | refine hpC rfl rfl rfl ?_ | refine ⟨⟨_, _, _, rfl, rfl, rfl, @WkO.rfl _⟩, ?_⟩ | refine HeapOK.acc rfl rfl ?_)))))
theorem cut1_spec (room : Int) (L : FS) (lc : Nat) (F : FS) (c : Nat) (w : PC) (W : List PC) (hW : W.length ≤ 1000000) (name : List Nat) (n : Nat) (z : Bool) (old : List Int) (oc : Option Nat) (hold : findP name F = some (fP z old oc)) (hn : n ≤ old.length) :
    CallS Try.prog base 39 [.c (.ptr 0 0), .c (.p (.str name)), .c (.p (.int .i64 n))] (hD1 3 room L lc F c w W) (.c (.p (.int .i64 0))) (hD1 4 room L lc (updP name (cutF z old n) c F) (updPC name (cutF z old n) c F) w (W ++ [.agg (chX 1 name [] (fP true [] none) n)])) := by
  have hl1 : (u8P old).length = old.length := u8P_len old
  refine CallS.of noNG lDCt.2 rfl (M.start (M.go rfl ?_))
  refine M.use trivial (there1_spec room L lc F c w W name) [(0, 0), (1, 1), (2, 2), (3, 3)] rfl rfl rfl (by repeat' (first | exact True.intro | refine hpC rfl rfl rfl ?_ | refine ⟨⟨_, _, _, rfl, rfl, rfl, @WkO.rfl _⟩, ?_⟩ | refine HeapOK.acc rfl rfl ?_)) rfl rfl ?_
  rw [hold]
  refine M.go rfl ?_
  refine M.condB rfl (fun hn => by cases hn) (fun _ => ?_)
  refine M.go rfl ?_
  refine M.dec rfl (fun hn => absurd hn (by omega)) (fun _ => ?_)
  refine M.go rfl ?_
  refine M.shO (Sh.wkH (b0 := 2) rfl rfl (WkO.pmap KD.str) Sh.refl) ?_
  refine M.op (by first | exact True.intro | exact rfl) (SOp.look (a := name) KD.str rfl rfl rfl) ?_
  rw [show (findK name (pv F)).getD (XV.c (.p (.tz true 0 [] none))) = .c (.p (fP z old oc)) by rw [findK_pv, hold]; rfl, show lookV false (XV.c (.p (fP z old oc))) (findK name (pv F)).isSome = .c (.p (fP z old oc)) from rfl]
  refine M.shO (Sh.wkH (b0 := 2) rfl rfl (WkO.mapp KD.str) Sh.refl) ?_
  refine M.go rfl ?_
  refine M.cond rfl (fun hn => absurd hn (by rw [hl1]; omega)) (fun _ => ?_)
  refine M.go rfl ?_
  refine M.wkO (i := 32) (v' := .agg ((chX 1 name [] (fP true [] none) n).map XC.p)) rfl (Wk.of rfl) ?_
  refine M.use trivial (chg1_spec room L lc F c _ _ w W 1 name [] true [] none n hW (do_cut F c name [] n z old oc hold hn (fP true [] none) (([] : List Int).length : Int))) [(0, 0), (1, 1), (2, 2), (3, 3)] rfl rfl rfl (by repeat' (first | exact True.intro | refine hpC rfl rfl rfl ?_ | refine ⟨⟨_, _, _, rfl, rfl, rfl, @WkO.rfl _⟩, ?_⟩ | refine HeapOK.acc rfl rfl ?_)) rfl rfl ?_
  refine M.go rfl ?_
  exact M.ret (M.go rfl (M.done (finQ.ret [(0, 0), (1, 1), (2, 2), (3, 3), (4, 4)] rfl rfl rfl (by first | exact Wk.rfl | exact Wk.uncap | exact Wk.nil | exact Wk.b1 rfl | exact Wk.t2 Wk.rfl (Wk.b1 rfl)) (by repeat' (first | exact True.intro | refine hpC rfl rfl rfl ?_ | refine ⟨⟨_, _, _, rfl, rfl, rfl, @WkO.rfl _⟩, ?_⟩ | refine HeapOK.acc rfl rfl ?_)))))
end Go.Proofs.Ytjlfojgacnphmaa

namespace Go.Proofs.Ytjlfojgacnphmaa
open Go.RowKit Sim Go Sym
set_option maxRecDepth 100000
set_option linter.unusedVariables false
set_option linter.unusedSimpArgs false
variable {base : Nat}
structure Chg where
  kd : Int
  name : List Nat
  to : List Nat
  z : Bool
  b : List Int
  cb : Option Nat
  n : Int
def Chg.pc (x : Chg) : PC := .agg (chX x.kd x.name x.to (fP x.z x.b x.cb) x.n)
inductive Do (x : Chg) (k : Nat) : FS × Nat → FS × Nat → Prop where
  | app {F c z old oc} (h0 : x.kd = 0) (hk : k ≤ x.b.length) (hb : x.b.length ≤ 100000000) (hf : findP x.name F = some (fP z old oc)) (ho : old.length ≤ 100000000) : Do x k (F, c) (updP x.name (apF (z && (u8P old).isEmpty) old (x.b.take k)) c F, updPC x.name (apF (z && (u8P old).isEmpty) old (x.b.take k)) c F)
  | new {F c} (h0 : x.kd = 0) (hk : k ≤ x.b.length) (hb : x.b.length ≤ 100000000) (hf : findP x.name F = none) : Do x k (F, c) (updP x.name (apF true [] (x.b.take k)) c F, updPC x.name (apF true [] (x.b.take k)) c F)
  | mv {F c z old oc} (h0 : x.kd = 3) (hf : findP x.name F = some (fP z old oc)) : Do x k (F, c) (updP x.to (fP z old oc) c (delP x.name F), updPC x.to (fP z old oc) c (delP x.name F))
  | cut {F c z old oc} {n : Nat} (h0 : x.kd = 1) (hn : x.n = n) (hf : findP x.name F = some (fP z old oc)) (hl : n ≤ old.length) : Do x k (F, c) (updP x.name (cutF z old n) c F, updPC x.name (cutF z old n) c F)
  | rm {F c v} (h0 : x.kd = 2) (hf : findP x.name F = some v) : Do x k (F, c) (delP x.name F, c)
noncomputable def lCr : {F : LF // lowerF Try.prog 23 = some F} := ⟨_, rfl⟩
def hC (room : Int) (L : FS) (lc : Nat) (F : FS) (c : Nat) (w : PC) (W : List PC) (s : FS × Nat) : HS := ⟨[(5, some (.row [.p (.int .i64 room), .mp 4, .p .nomap, .p (.tz true 0 [] none)] true)), (4, some (fM s.1 s.2)), (3, some (.els 5 (w :: W))), (2, some (fM F c)), (1, some (fM L lc)), (0, some (.row [.p (.int .i64 room), .mp 1, .mp 2, .acc 3 5 (w :: W)] true))], 6⟩
end Go.Proofs.Ytjlfojgacnphmaa

namespace Go.Proofs.Ytjlfojgacnphmaa
open Go.RowKit Sim Go Sym
set_option maxRecDepth 100000
set_option linter.unusedVariables false
set_option linter.unusedSimpArgs false
variable {base : Nat}
def skP (x : List Int) : PC := .tz false 1 (u8P x) none
def sksP (l : List (List Int)) : List PC := l.map skP
noncomputable def lScan : {F : LF // lowerF Try.prog 57 = some F} := ⟨_, rfl⟩
def scanV (r : List (List Int) × Nat) : XV := .tup [.c (.p (.tz true 1 (sksP r.1) none)), .c (.p (.int .i64 (r.2 : Nat)))]
theorem scan_loop (z : Bool) (xs : List Int) (c : Option Nat) (hB : Bytes xs) (hl : xs.length ≤ 1000000000) (Q : QX) (hq : Q .ret [(2, .c (.p (.tz true 1 (sksP (scan xs).1) none))), (3, .c (.p (.int .i64 ((scan xs).2 : Nat))))] ⟨[], 0⟩) :
    ∀ (m : Nat) (acc : List (List Int)) (j : Nat), xs.length - j = m → j ≤ xs.length → acc.length ≤ j → scan xs = (acc ++ (scan (xs.drop j)).1, j + (scan (xs.drop j)).2) → XH Try.prog base lScan.1.n 0 (lScan.1.c.lp 0) [(0, .c (.p (.tz z 1 (u8P xs) c))), (4, accV 0 1 (sksP acc)), (5, .c (.p (.int .i64 j)))] ⟨[(0, accO 1 (sksP acc))], 1⟩ Q := by
  have hlen : (u8P xs).length = xs.length := u8P_len xs
  intro m
  induction m using Nat.strongRecOn with
  | ind m ih =>
    intro acc j hm hj ha hs
    refine M.round (M.go rfl ?_)
    refine M.op trivial (SOp.sl (l := j) (r := xs.length) rfl ⟨_, _, rfl, by omega, by omega⟩ (by rw [hlen]; rfl) (by omega) (by omega)) ?_
    rw [u8P_drop, List.take_of_length_le (by rw [u8P_len]; simp)]
    refine M.go rfl ?_
    refine M.use0 trivial (first_spec (z && (u8P xs).isEmpty) (c.map (· - j)) (xs.drop j) (hB.drop j) (by simp; omega)) rfl rfl (by cases firstB (xs.drop j) <;> rfl) ?_
    cases hf : firstB (xs.drop j) with
    | none =>
      have he := scan_end hs hf
      refine M.go rfl ?_
      refine M.condB rfl (fun _ => ?_) (fun hn => by cases hn)
      refine M.accF (i := 4) rfl rfl ?_
      refine M.go rfl ?_
      rw [he] at hq
      refine M.ren [] ?_ trivial rfl (by repeat' (first | exact True.intro | refine evC rfl rfl Wk.rfl ?_ | refine evC (accV_ren rfl) rfl Wk.rfl ?_ | refine evC (accV_ren rfl) rfl Wk.acc0 ?_ | refine evC rfl rfl Wk.uncap ?_ | refine evC rfl rfl Wk.nil ?_)) (by repeat' (first | exact True.intro | refine hpC rfl rfl rfl ?_ | refine ⟨⟨_, _, _, rfl, rfl, rfl, @WkO.rfl _⟩, ?_⟩ | refine HeapOK.acc rfl rfl ?_)) (e' := [(2, .c (.p (.tz true 1 (sksP acc) none))), (3, .c (.p (.int .i64 (j : Nat))))]) (h' := ⟨[], 0⟩)
      exact M.ret (M.go rfl (M.done hq))
    | some x =>
      have hx := firstB_len hf
      have hst := scan_step hs hf
      have hdl : (xs.drop j).length = xs.length - j := by simp
      refine M.go rfl ?_
      refine M.condB rfl (fun hn => by cases hn) (fun _ => ?_)
      refine M.go rfl ?_
      refine M.use0 trivial (bcl_spec false (u8P x) none (by rw [u8P_len]; omega)) rfl rfl rfl ?_
      refine M.go rfl ?_
      refine M.acc trivial rfl rfl rfl (.own rfl rfl) (by simp) (by simp [sksP]; omega) ?_
      refine M.go rfl ?_
      rw [u8P_len, wr64 (n := 8 + (x.length : Int)) (by omega) (by omega), wr64 (n := (j : Int) + (8 + (x.length : Int))) (by omega) (by omega), show (j : Int) + (8 + (x.length : Int)) = ((j + (8 + x.length) : Nat) : Int) by omega]
      rw [show sksP acc ++ [PC.tz false 1 (u8P x) none] = sksP (acc ++ [x]) by simp [sksP, skP]]
      exact M.again (XH.ren [(0, 2)] (ih _ (by omega) (acc ++ [x]) (j + (8 + x.length)) rfl (by omega) (by simp; omega) hst) rfl (by repeat' (first | exact True.intro | refine evC rfl rfl Wk.rfl ?_ | refine evC (accV_ren rfl) rfl Wk.rfl ?_ | refine evC (accV_ren rfl) rfl Wk.acc0 ?_ | refine evC rfl rfl Wk.uncap ?_ | refine evC rfl rfl Wk.nil ?_)) (by repeat' (first | exact True.intro | refine hpC rfl rfl rfl ?_ | refine ⟨⟨_, _, _, rfl, rfl, rfl, @WkO.rfl _⟩, ?_⟩ | refine HeapOK.acc rfl rfl ?_)))
theorem scan_spec (z : Bool) (xs : List Int) (c : Option Nat) (hB : Bytes xs) (hl : xs.length ≤ 1000000000) : CallS Try.prog base 57 [.c (.p (.tz z 1 (u8P xs) c))] ⟨[], 0⟩ (scanV (scan xs)) ⟨[], 0⟩ := by
  refine CallS.of noNG lScan.2 rfl (M.start (M.go rfl ?_))
  refine M.loop (XH.ren [(0, 0)] (scan_loop z xs c hB hl _ ?_ xs.length [] 0 (by omega) (by omega) (by simp) (by simp)) rfl (by repeat' (first | exact True.intro | refine evC rfl rfl Wk.rfl ?_ | refine evC (accV_ren rfl) rfl Wk.rfl ?_ | refine evC (accV_ren rfl) rfl Wk.acc0 ?_ | refine evC rfl rfl Wk.uncap ?_ | refine evC rfl rfl Wk.nil ?_)) ?_)
  · exact M.q (M.go rfl (M.done (finQ.ret [] rfl rfl rfl (Wk.of rfl) (by repeat' (first | exact True.intro | refine hpC rfl rfl rfl ?_ | refine ⟨⟨_, _, _, rfl, rfl, rfl, @WkO.rfl _⟩, ?_⟩ | refine HeapOK.acc rfl rfl ?_)))))
  · exact trivial
end Go.Proofs.Ytjlfojgacnphmaa

namespace Go.Proofs.Ytjlfojgacnphmaa
open Go.RowKit Sim Go Sym
set_option maxRecDepth 100000
set_option linter.unusedVariables false
set_option linter.unusedSimpArgs false
variable {base : Nat}
structure RS where
  z : Bool
  xs : List Int
  bad : Bool
def hR (r : RS) : HS := ⟨[(0, some (.row [.p (.tz r.z 1 (u8P r.xs) none), .p (.bs r.bad)] true))], 1⟩
def RS.fail : RS := ⟨true, [], true⟩
structure RS.ok (r : RS) : Prop where
  len : r.xs.length ≤ 1000000000000
  b : Bytes r.xs
  e : r.bad = true → r.xs = []
  y : r.bad = true → r.z = true
theorem RS.fail_ok : RS.fail.ok := ⟨by simp [RS.fail], Bytes.nil, fun _ => rfl, fun _ => rfl⟩
noncomputable def lRf : {F : LF // lowerF Try.prog 98 = some F} := ⟨_, rfl⟩
theorem rfail_spec (r : RS) : CallS Try.prog base 98 [.c (.ptr 0 0)] (hR r) (.tup []) (hR RS.fail) := by
  refine CallS.of noNG lRf.2 rfl (M.start (M.go rfl ?_))
  exact M.done (finQ.normal [(0, 0)] rfl rfl rfl Wk.rfl ⟨⟨_, _, _, rfl, rfl, rfl, WkO.row ⟨Wk.nil, Wk.b1 rfl, trivial⟩⟩, trivial⟩)
noncomputable def lRo : {F : LF // lowerF Try.prog 61 = some F} := ⟨_, rfl⟩
theorem rok_spec (r : RS) : CallS Try.prog base 61 [.c (.ptr 0 0)] (hR r) (.c (.p (.bs (!r.bad)))) (hR r) := by
  refine CallS.of noNG lRo.2 rfl (M.start (M.go rfl ?_))
  exact M.ret (M.go rfl (M.done (finQ.ret [(0, 0)] rfl rfl rfl (by first | exact Wk.rfl | exact Wk.uncap | exact Wk.nil | exact Wk.b1 rfl | exact Wk.t2 Wk.rfl (Wk.b1 rfl)) (by repeat' (first | exact True.intro | refine hpC rfl rfl rfl ?_ | refine ⟨⟨_, _, _, rfl, rfl, rfl, @WkO.rfl _⟩, ?_⟩ | refine HeapOK.acc rfl rfl ?_)))))
noncomputable def lRl : {F : LF // lowerF Try.prog 60 = some F} := ⟨_, rfl⟩
theorem rleft_spec (r : RS) : CallS Try.prog base 60 [.c (.ptr 0 0)] (hR r) (.c (.p (.int .i64 r.xs.length))) (hR r) := by
  refine CallS.of noNG lRl.2 rfl (M.start (M.go rfl ?_))
  rw [u8P_len]
  exact M.ret (M.go rfl (M.done (finQ.ret [(0, 0)] rfl rfl rfl (by first | exact Wk.rfl | exact Wk.uncap | exact Wk.nil | exact Wk.b1 rfl | exact Wk.t2 Wk.rfl (Wk.b1 rfl)) (by repeat' (first | exact True.intro | refine hpC rfl rfl rfl ?_ | refine ⟨⟨_, _, _, rfl, rfl, rfl, @WkO.rfl _⟩, ?_⟩ | refine HeapOK.acc rfl rfl ?_)))))
noncomputable def lRr : {F : LF // lowerF Try.prog 58 = some F} := ⟨_, rfl⟩
theorem rread_spec (z : Bool) (xs : List Int) (c : Option Nat) (hl : xs.length ≤ 1000000000000) : CallS Try.prog base 58 [.c (.p (.tz z 1 (u8P xs) c))] ⟨[], 0⟩ (.c (.ptr 0 0)) (hR ⟨z, xs, false⟩) := by
  refine CallS.of noNG lRr.2 rfl (M.start (M.go rfl ?_))
  refine M.use0 trivial (bcl_spec z (u8P xs) c (by rw [u8P_len]; exact hl)) rfl rfl rfl ?_
  refine M.go rfl ?_
  exact M.ret (M.go rfl (M.done (finQ.ret [(0, 0)] rfl rfl rfl Wk.rfl ⟨⟨_, _, _, rfl, rfl, rfl, WkO.row ⟨Wk.rfl, Wk.b1 rfl, trivial⟩⟩, trivial⟩)))
/-! Num. -/
noncomputable def lRn : {F : LF // lowerF Try.prog 59 = some F} := ⟨_, rfl⟩
def RS.num (r : RS) : Int × RS := match rnum r.xs with
  | some (n, rest) => (n, ⟨false, rest, r.bad⟩)
  | none => (0, RS.fail)
theorem unzz_bits (v : Nat) (hv : v < 18446744073709551616) : bits .xor .i64 (IntKind.i64.wrap ((v : Int).fdiv (2 ^ (min (1 : Int).toNat IntKind.u64.bits)))) (IntKind.i64.wrap (0 - IntKind.i64.wrap (bits .and .u64 (v : Int) 1))) = unzz v := by
  have e1 : (2 : Int) ^ (min (1 : Int).toNat IntKind.u64.bits) = 2 := by decide
  rw [e1, Int.fdiv_eq_ediv_of_nonneg _ (by omega), ← bits_unzz hv]
  have e2 : IntKind.i64.wrap ((v : Int) / 2) = (v : Int) / 2 := wr64 (by omega) (by omega)
  rw [e2]
  simp only [Int.zero_sub, IntKind.wrap_i64, wrap64]
def rnE (z : Bool) (ys : List Int) (i : Nat) (u : Nat) : Env := [(18, .c (.p (.tz z 1 (u8P ys) none))), (19, .c (.p (.int .i64 ys.length))), (20, .c (.p (.int .i64 i))), (3, .c (.p (.int .u64 u))), (0, .c (.ptr 0 0))]
theorem rnum_loop (r : RS) (hr : r.ok) (z : Bool) (Q : QX) (hn : rdU 0 0 r.xs = none → Q (.exit 0) [(0, .c (.ptr 0 0))] (hR r)) (hs : ∀ v rest, rdU 0 0 r.xs = some (v, rest) → Q .ret [(2, .c (.p (.int .i64 (unzz v))))] (hR ⟨false, rest, r.bad⟩)) :
    ∀ (rem i u : Nat), i + rem = min r.xs.length 10 → u < 18446744073709551616 → ((i ≤ 9 ∧ u < 128 ^ i ∧ rdU 0 0 r.xs = rdU i u (r.xs.drop i)) ∨ (i = 10 ∧ rdU 0 0 r.xs = none)) →
      XH Try.prog base lRn.1.n 1 (lRn.1.c.lp 0) (rnE z (r.xs.take 10) i u) (hR r) Q := by
  have hlen := hr.len
  have htl : (r.xs.take 10).length = min 10 r.xs.length := by simp
  intro rem
  induction rem with
  | zero =>
    intro i u hi hu hacc
    have hnone : rdU 0 0 r.xs = none := by
      rcases hacc with ⟨h9, _, h⟩ | ⟨_, h⟩
      · rw [h, List.drop_eq_nil_of_le (by omega)]; rfl
      · exact h
    refine M.round (M.go rfl ?_)
    refine M.cond rfl (fun hc => absurd hc (by rw [htl]; omega)) (fun hc => ?_)
    refine M.ren [(0, 0)] ?_ trivial rfl (by repeat' (first | exact True.intro | refine evC rfl rfl Wk.rfl ?_ | refine evC (accV_ren rfl) rfl Wk.rfl ?_ | refine evC (accV_ren rfl) rfl Wk.acc0 ?_ | refine evC rfl rfl Wk.uncap ?_ | refine evC rfl rfl Wk.nil ?_)) (by repeat' (first | exact True.intro | refine hpC rfl rfl rfl ?_ | refine ⟨⟨_, _, _, rfl, rfl, rfl, @WkO.rfl _⟩, ?_⟩ | refine HeapOK.acc rfl rfl ?_)) (e' := [(0, .c (.ptr 0 0))]) (h' := hR r)
    exact M.exit (M.go rfl (M.done (hn hnone)))
  | succ rem ih =>
    intro i u hi hu hacc
    have hil : i < r.xs.length := by omega
    rcases hacc with ⟨h9, hm, hd⟩ | ⟨h10, _⟩
    · have hx := hr.b.at i
      have hget : (r.xs.take 10).getD i 0 = r.xs.getD i 0 := by simp [List.getD, List.getElem?_take, show i < 10 by omega]
      have hua : (u8P (r.xs.take 10))[((i : Int)).toNat]? = some (.int .u8 (r.xs.getD i 0)) := by rw [Int.toNat_natCast, u8P_at _ i (by omega), hget]
      have hmore := @rdU_more r.xs i u hil h9
      have hbad := @rdU_bad r.xs i u hil
      have hend := @rdU_end r.xs i u hil h9
      obtain ⟨x, hxe⟩ : ∃ x, x = r.xs.getD i 0 := ⟨_, rfl⟩
      rw [← hxe] at hx hua hmore hbad hend
      obtain ⟨hx0, hx1⟩ := hx
      have hp9 := pow_le9 h9
      have hw7 : IntKind.i64.wrap (7 * (i : Int)) = ((7 * i : Nat) : Int) := by rw [wr64 (by omega) (by omega)]; push_cast; rfl
      have hwi : IntKind.i64.wrap ((i : Int) + 1) = ((i + 1 : Nat) : Int) := by rw [wr64 (by omega) (by omega)]; push_cast; rfl
      have hb64 : min (((7 * i : Nat) : Int)).toNat IntKind.u64.bits = 7 * i := by
        rw [Int.toNat_natCast, show IntKind.u64.bits = 64 from rfl]; omega
      refine M.round (M.go rfl ?_)
      refine M.cond rfl (fun hc => ?_) (fun hc => absurd (by rw [htl]; omega) hc)
      refine M.go rfl ?_
      refine M.op trivial (SOp.ia rfl rfl (by omega) hua) ?_
      refine M.op trivial (SOp.ld1e rfl hua rfl rfl rfl) ?_
      refine M.go rfl ?_
      rw [hw7]
      refine M.op trivial (SOp.shl rfl rfl (by omega)) ?_
      rw [hb64]
      obtain ⟨U, hor, hU⟩ := bits_u64_range .or (u : Int) (IntKind.u64.wrap (IntKind.u64.wrap (bits .and .u8 x 127) * 2 ^ (7 * i)))
      have hstep : x.toNat % 128 * 128 ^ i < 18446744073709551616 → U = u + x.toNat % 128 * 128 ^ i := by
        intro h
        have := or_step hm hx0 hx1 h hu
        rw [hor] at this
        omega
      refine M.go rfl ?_
      rw [hor]
      refine M.cond rfl (fun hbig => ?_) (fun hsm => ?_)
      · refine M.exit (M.go rfl ?_)
        rw [hwi]
        refine M.again (XH.ren [(0, 0)] (ih (i + 1) U (by omega) hU ?_) rfl (by repeat' (first | exact True.intro | refine evC rfl rfl Wk.rfl ?_ | refine evC (accV_ren rfl) rfl Wk.rfl ?_ | refine evC (accV_ren rfl) rfl Wk.acc0 ?_ | refine evC rfl rfl Wk.uncap ?_ | refine evC rfl rfl Wk.nil ?_)) (by repeat' (first | exact True.intro | refine hpC rfl rfl rfl ?_ | refine ⟨⟨_, _, _, rfl, rfl, rfl, @WkO.rfl _⟩, ?_⟩ | refine HeapOK.acc rfl rfl ?_)))
        by_cases h8 : i ≤ 8
        · have hp8 := pow_le8 h8
          have h2 : x.toNat % 128 * 128 ^ i ≤ 127 * 128 ^ i := Nat.mul_le_mul_right _ (by omega)
          rw [hstep (by omega)]
          exact .inl ⟨by omega, add_lt hm (by omega), hd.trans (hmore hbig)⟩
        · exact .inr ⟨by omega, hd.trans ((hmore hbig).trans (rdU_10 _ _ _ (by omega)))⟩
      · have rej : (0 < i ∧ x = 0) ∨ (i = 9 ∧ 1 < x) → rdU 0 0 r.xs = none := fun h => hd.trans (hbad hsm h)
        have acc : ¬ ((0 < i ∧ x = 0) ∨ (i = 9 ∧ 1 < x)) → rdU 0 0 r.xs = some (U, r.xs.drop (i + 1)) := fun h => by
          have hlt : x.toNat % 128 * 128 ^ i < 18446744073709551616 := by
            by_cases h8 : i ≤ 8
            · have hp8 := pow_le8 h8
              have h2 : x.toNat % 128 * 128 ^ i ≤ 127 * 128 ^ i := Nat.mul_le_mul_right _ (by omega)
              omega
            · obtain rfl : i = 9 := by omega
              have : x ≤ 1 := by omega
              have h2 : x.toNat % 128 * 128 ^ 9 ≤ 1 * 128 ^ 9 := Nat.mul_le_mul_right _ (by omega)
              omega
          rw [hstep hlt, hd, hend hsm h, show x.toNat % 128 = x.toNat by omega]
        have hsl : ((u8P r.xs).drop (i + 1)).take ((u8P r.xs).length - (i + 1)) = u8P (r.xs.drop (i + 1)) := by rw [u8P_drop, List.take_of_length_le (by rw [u8P_len, u8P_len]; simp)]
        have hzf : (r.z && (u8P r.xs).isEmpty) = false := by
          have : (u8P r.xs).isEmpty = false := by rw [List.isEmpty_eq_false_iff]; intro h; have := congrArg List.length h; rw [u8P_len] at this; simp only [List.length_nil] at this; omega
          rw [this, Bool.and_false]
        refine M.go rfl ?_
        refine M.dec rfl (fun h1 => ?_) (fun h1 => ?_)
        · refine M.go rfl ?_
          refine M.dec rfl (fun h2 => ?_) (fun h2 => ?_)
          · refine M.go rfl ?_
            refine M.ren [(0, 0)] ?_ trivial rfl (by repeat' (first | exact True.intro | refine evC rfl rfl Wk.rfl ?_ | refine evC (accV_ren rfl) rfl Wk.rfl ?_ | refine evC (accV_ren rfl) rfl Wk.acc0 ?_ | refine evC rfl rfl Wk.uncap ?_ | refine evC rfl rfl Wk.nil ?_)) (by repeat' (first | exact True.intro | refine hpC rfl rfl rfl ?_ | refine ⟨⟨_, _, _, rfl, rfl, rfl, @WkO.rfl _⟩, ?_⟩ | refine HeapOK.acc rfl rfl ?_)) (e' := [(0, .c (.ptr 0 0))]) (h' := hR r)
            exact M.exit (M.go rfl (M.done (hn (rej (.inl ⟨by omega, h2⟩)))))
          · refine M.go rfl ?_
            refine M.dec rfl (fun h3 => ?_) (fun h3 => ?_)
            · refine M.go rfl ?_
              refine M.cond rfl (fun h4 => ?_) (fun h4 => ?_)
              · refine M.go rfl ?_
                refine M.ren [(0, 0)] ?_ trivial rfl (by repeat' (first | exact True.intro | refine evC rfl rfl Wk.rfl ?_ | refine evC (accV_ren rfl) rfl Wk.rfl ?_ | refine evC (accV_ren rfl) rfl Wk.acc0 ?_ | refine evC rfl rfl Wk.uncap ?_ | refine evC rfl rfl Wk.nil ?_)) (by repeat' (first | exact True.intro | refine hpC rfl rfl rfl ?_ | refine ⟨⟨_, _, _, rfl, rfl, rfl, @WkO.rfl _⟩, ?_⟩ | refine HeapOK.acc rfl rfl ?_)) (e' := [(0, .c (.ptr 0 0))]) (h' := hR r)
                exact M.exit (M.go rfl (M.done (hn (rej (.inr ⟨by omega, h4⟩)))))
              · have ha := acc (by omega)
                refine M.go rfl ?_
                rw [hwi]
                refine M.op trivial (SOp.sl (l := i + 1) rfl ⟨_, _, rfl, by omega, by omega⟩ rfl (by rw [u8P_len]; omega) (Nat.le_refl _)) ?_
                rw [hsl, hzf]
                refine M.go rfl ?_
                refine M.op trivial (SOp.shr rfl rfl (by omega)) ?_
                refine M.go rfl ?_
                rw [unzz_bits U hU]
                refine M.ren [(0, 0)] ?_ trivial rfl (by repeat' (first | exact True.intro | refine evC rfl rfl Wk.rfl ?_ | refine evC (accV_ren rfl) rfl Wk.rfl ?_ | refine evC (accV_ren rfl) rfl Wk.acc0 ?_ | refine evC rfl rfl Wk.uncap ?_ | refine evC rfl rfl Wk.nil ?_)) (by repeat' (first | exact True.intro | refine hpC rfl rfl rfl ?_ | refine ⟨⟨_, _, _, rfl, rfl, rfl, @WkO.rfl _⟩, ?_⟩ | refine HeapOK.acc rfl rfl ?_)) (e' := [(2, .c (.p (.int .i64 (unzz U))))]) (h' := hR ⟨false, r.xs.drop (i + 1), r.bad⟩)
                exact M.ret (M.go rfl (M.done (hs U _ ha)))
            · have ha := acc (by omega)
              refine M.go rfl ?_
              rw [hwi]
              refine M.op trivial (SOp.sl (l := i + 1) rfl ⟨_, _, rfl, by omega, by omega⟩ rfl (by rw [u8P_len]; omega) (Nat.le_refl _)) ?_
              rw [hsl, hzf]
              refine M.go rfl ?_
              refine M.op trivial (SOp.shr rfl rfl (by omega)) ?_
              refine M.go rfl ?_
              rw [unzz_bits U hU]
              refine M.ren [(0, 0)] ?_ trivial rfl (by repeat' (first | exact True.intro | refine evC rfl rfl Wk.rfl ?_ | refine evC (accV_ren rfl) rfl Wk.rfl ?_ | refine evC (accV_ren rfl) rfl Wk.acc0 ?_ | refine evC rfl rfl Wk.uncap ?_ | refine evC rfl rfl Wk.nil ?_)) (by repeat' (first | exact True.intro | refine hpC rfl rfl rfl ?_ | refine ⟨⟨_, _, _, rfl, rfl, rfl, @WkO.rfl _⟩, ?_⟩ | refine HeapOK.acc rfl rfl ?_)) (e' := [(2, .c (.p (.int .i64 (unzz U))))]) (h' := hR ⟨false, r.xs.drop (i + 1), r.bad⟩)
              exact M.ret (M.go rfl (M.done (hs U _ ha)))
        · refine M.go rfl ?_
          refine M.dec rfl (fun h3 => absurd h3 (by omega)) (fun h3 => ?_)
          have ha := acc (by omega)
          refine M.go rfl ?_
          rw [hwi]
          refine M.op trivial (SOp.sl (l := i + 1) rfl ⟨_, _, rfl, by omega, by omega⟩ rfl (by rw [u8P_len]; omega) (Nat.le_refl _)) ?_
          rw [hsl, hzf]
          refine M.go rfl ?_
          refine M.op trivial (SOp.shr rfl rfl (by omega)) ?_
          refine M.go rfl ?_
          rw [unzz_bits U hU]
          refine M.ren [(0, 0)] ?_ trivial rfl (by repeat' (first | exact True.intro | refine evC rfl rfl Wk.rfl ?_ | refine evC (accV_ren rfl) rfl Wk.rfl ?_ | refine evC (accV_ren rfl) rfl Wk.acc0 ?_ | refine evC rfl rfl Wk.uncap ?_ | refine evC rfl rfl Wk.nil ?_)) (by repeat' (first | exact True.intro | refine hpC rfl rfl rfl ?_ | refine ⟨⟨_, _, _, rfl, rfl, rfl, @WkO.rfl _⟩, ?_⟩ | refine HeapOK.acc rfl rfl ?_)) (e' := [(2, .c (.p (.int .i64 (unzz U))))]) (h' := hR ⟨false, r.xs.drop (i + 1), r.bad⟩)
          exact M.ret (M.go rfl (M.done (hs U _ ha)))
    · omega
theorem rnum_spec (r : RS) (hr : r.ok) : CallS Try.prog base 59 [.c (.ptr 0 0)] (hR r) (.c (.p (.int .i64 r.num.1))) (hR r.num.2) := by
  have hlen := hr.len
  refine CallS.of noNG lRn.2 rfl (M.start (M.go rfl ?_))
  refine M.regD (MD.go rfl ?_)
  rw [u8P_len, minI_eq]
  refine MD.op trivial (SOp.sl (l := 0) (r := min r.xs.length 10) rfl rfl ⟨_, _, rfl, by omega, by omega⟩ (by omega) (by rw [u8P_len]; omega)) (MD.go rfl (MD.nil mixed (Fnl.nodup rfl) (M.go rfl ?_)))
  have hys : ((u8P r.xs).drop 0).take (min r.xs.length 10 - 0) = u8P (r.xs.take 10) := by
    rw [List.drop_zero, u8P_take]
    congr 1
    rcases Nat.le_total r.xs.length 10 with h | h
    · rw [Nat.min_eq_left h, Nat.sub_zero, List.take_of_length_le h, List.take_of_length_le (Nat.le_refl _)]
    · rw [Nat.min_eq_right h]
  rw [hys, u8P_len]
  refine M.loop (XH.ren [(0, 0)] (rnum_loop r hr _ _ (fun hn => ?_) (fun v rest hs => ?_) (min r.xs.length 10) 0 0 (by omega) (by omega) (.inl ⟨by omega, by simp, by simp⟩)) rfl (by repeat' (first | exact True.intro | refine evC rfl rfl Wk.rfl ?_ | refine evC (accV_ren rfl) rfl Wk.rfl ?_ | refine evC (accV_ren rfl) rfl Wk.acc0 ?_ | refine evC rfl rfl Wk.uncap ?_ | refine evC rfl rfl Wk.nil ?_)) (by repeat' (first | exact True.intro | refine hpC rfl rfl rfl ?_ | refine ⟨⟨_, _, _, rfl, rfl, rfl, @WkO.rfl _⟩, ?_⟩ | refine HeapOK.acc rfl rfl ?_)))
  · have he : r.num = (0, RS.fail) := by simp [RS.num, rnum, hn]
    rw [he]
    refine M.q (M.go rfl ?_)
    refine M.use (by first | exact True.intro | exact rfl) (rfail_spec r) [(0, 0)] rfl rfl rfl (by repeat' (first | exact True.intro | refine hpC rfl rfl rfl ?_ | refine ⟨⟨_, _, _, rfl, rfl, rfl, @WkO.rfl _⟩, ?_⟩ | refine HeapOK.acc rfl rfl ?_)) rfl rfl ?_
    refine M.go rfl ?_
    exact M.ret (M.go rfl (M.done (finQ.ret [(0, 0)] rfl rfl rfl (by first | exact Wk.rfl | exact Wk.uncap | exact Wk.nil | exact Wk.b1 rfl | exact Wk.t2 Wk.rfl (Wk.b1 rfl)) (by repeat' (first | exact True.intro | refine hpC rfl rfl rfl ?_ | refine ⟨⟨_, _, _, rfl, rfl, rfl, @WkO.rfl _⟩, ?_⟩ | refine HeapOK.acc rfl rfl ?_)))))
  · have he : r.num = (unzz v, ⟨false, rest, r.bad⟩) := by simp [RS.num, rnum, hs]
    rw [he]
    refine M.q (M.go rfl ?_)
    exact M.done (finQ.ret [(0, 0)] rfl rfl rfl Wk.rfl (by repeat' (first | exact True.intro | refine hpC rfl rfl rfl ?_ | refine ⟨⟨_, _, _, rfl, rfl, rfl, @WkO.rfl _⟩, ?_⟩ | refine HeapOK.acc rfl rfl ?_)))
theorem RS.ok.num {r : RS} (hr : r.ok) : r.num.2.ok := by
  unfold RS.num
  split
  · rename_i n rest h
    obtain ⟨h1, h2, h3⟩ := rnum_inv hr.b h
    have := hr.len
    rw [h1] at this
    exact ⟨by simp at this; simp only; omega, h3, fun hb => by rw [hr.e hb] at h; simp [rnum, rdU] at h, fun hb => by rw [hr.e hb] at h; simp [rnum, rdU] at h⟩
  · exact RS.fail_ok
/-! Text. -/
noncomputable def lRt : {F : LF // lowerF Try.prog 124 = some F} := ⟨_, rfl⟩
def RS.text (r : RS) : (Bool × List Int) × RS :=
  if r.num.2.bad = true then ((true, []), r.num.2)
  else if r.num.1 < 0 ∨ (r.num.2.xs.length : Int) < r.num.1 then ((true, []), RS.fail)
  else ((r.num.2.z && r.num.2.xs.isEmpty, r.num.2.xs.take r.num.1.toNat), ⟨r.num.2.z && r.num.2.xs.isEmpty, r.num.2.xs.drop r.num.1.toNat, r.num.2.bad⟩)
theorem u8P_emp (l : List Int) : (u8P l).isEmpty = l.isEmpty := by cases l <;> rfl
theorem rtext_spec (r : RS) (hr : r.ok) : CallS Try.prog base 124 [.c (.ptr 0 0)] (hR r) (.c (.p (.tz r.text.1.1 1 (u8P r.text.1.2) none))) (hR r.text.2) := by
  have hr2 := hr.num
  have hlen := hr2.len
  refine CallS.of noNG lRt.2 rfl (M.start (M.go rfl ?_))
  refine M.use (by first | exact True.intro | exact rfl) (rnum_spec r hr) [(0, 0)] rfl rfl rfl (by repeat' (first | exact True.intro | refine hpC rfl rfl rfl ?_ | refine ⟨⟨_, _, _, rfl, rfl, rfl, @WkO.rfl _⟩, ?_⟩ | refine HeapOK.acc rfl rfl ?_)) rfl rfl ?_
  refine M.go rfl ?_
  refine M.use (by first | exact True.intro | exact rfl) (rok_spec r.num.2) [(0, 0)] rfl rfl rfl (by repeat' (first | exact True.intro | refine hpC rfl rfl rfl ?_ | refine ⟨⟨_, _, _, rfl, rfl, rfl, @WkO.rfl _⟩, ?_⟩ | refine HeapOK.acc rfl rfl ?_)) rfl rfl ?_
  rw [RS.text]
  refine M.go rfl ?_
  refine M.condB rfl (fun h => ?_) (fun h => ?_)
  · rw [if_pos (by simpa using h)]
    refine M.go rfl ?_
    exact M.ret (M.go rfl (M.done (finQ.ret [(0, 0)] rfl rfl rfl Wk.nil (by repeat' (first | exact True.intro | refine hpC rfl rfl rfl ?_ | refine ⟨⟨_, _, _, rfl, rfl, rfl, @WkO.rfl _⟩, ?_⟩ | refine HeapOK.acc rfl rfl ?_)))))
  · rw [if_neg (by simpa using h)]
    refine M.go rfl ?_
    refine M.dec rfl (fun h1 => ?_) (fun h1 => ?_)
    · rw [if_pos (.inl h1)]
      refine M.go rfl ?_
      refine M.use (by first | exact True.intro | exact rfl) (rfail_spec r.num.2) [(0, 0)] rfl rfl rfl (by repeat' (first | exact True.intro | refine hpC rfl rfl rfl ?_ | refine ⟨⟨_, _, _, rfl, rfl, rfl, @WkO.rfl _⟩, ?_⟩ | refine HeapOK.acc rfl rfl ?_)) rfl rfl ?_
      refine M.go rfl ?_
      exact M.ret (M.go rfl (M.done (finQ.ret [(0, 0)] rfl rfl rfl Wk.nil (by repeat' (first | exact True.intro | refine hpC rfl rfl rfl ?_ | refine ⟨⟨_, _, _, rfl, rfl, rfl, @WkO.rfl _⟩, ?_⟩ | refine HeapOK.acc rfl rfl ?_)))))
    · refine M.go rfl ?_
      rw [u8P_len]
      refine M.cond rfl (fun h2 => ?_) (fun h2 => ?_)
      · rw [if_pos (.inr h2)]
        refine M.go rfl ?_
        refine M.use (by first | exact True.intro | exact rfl) (rfail_spec r.num.2) [(0, 0)] rfl rfl rfl (by repeat' (first | exact True.intro | refine hpC rfl rfl rfl ?_ | refine ⟨⟨_, _, _, rfl, rfl, rfl, @WkO.rfl _⟩, ?_⟩ | refine HeapOK.acc rfl rfl ?_)) rfl rfl ?_
        refine M.go rfl ?_
        exact M.ret (M.go rfl (M.done (finQ.ret [(0, 0)] rfl rfl rfl Wk.nil (by repeat' (first | exact True.intro | refine hpC rfl rfl rfl ?_ | refine ⟨⟨_, _, _, rfl, rfl, rfl, @WkO.rfl _⟩, ?_⟩ | refine HeapOK.acc rfl rfl ?_)))))
      · rw [if_neg (by omega)]
        refine M.go rfl ?_
        refine M.op trivial (SOp.sl (l := 0) (r := r.num.1.toNat) rfl rfl ⟨_, _, rfl, by omega, rfl⟩ (by omega) (by rw [u8P_len]; omega)) ?_
        have e1 : ((u8P r.num.2.xs).drop 0).take (r.num.1.toNat - 0) = u8P (r.num.2.xs.take r.num.1.toNat) := by rw [List.drop_zero, Nat.sub_zero, u8P_take]
        rw [e1, u8P_emp]
        refine M.go rfl ?_
        refine M.use0 trivial (bcl_spec _ (u8P (r.num.2.xs.take r.num.1.toNat)) _ (by rw [u8P_len]; simp; omega)) rfl rfl rfl ?_
        refine M.go rfl ?_
        refine M.op trivial (SOp.sl (l := r.num.1.toNat) rfl ⟨_, _, rfl, by omega, rfl⟩ rfl (by rw [u8P_len]; omega) (Nat.le_refl _)) ?_
        have e2 : ((u8P r.num.2.xs).drop r.num.1.toNat).take ((u8P r.num.2.xs).length - r.num.1.toNat) = u8P (r.num.2.xs.drop r.num.1.toNat) := by rw [u8P_drop, List.take_of_length_le (by rw [u8P_len, u8P_len]; simp)]
        rw [e2, u8P_emp]
        refine M.go rfl ?_
        exact M.ret (M.go rfl (M.done (finQ.ret [(0, 0)] rfl rfl rfl (by first | exact Wk.rfl | exact Wk.uncap | exact Wk.nil | exact Wk.b1 rfl | exact Wk.t2 Wk.rfl (Wk.b1 rfl)) (by repeat' (first | exact True.intro | refine hpC rfl rfl rfl ?_ | refine ⟨⟨_, _, _, rfl, rfl, rfl, @WkO.rfl _⟩, ?_⟩ | refine HeapOK.acc rfl rfl ?_)))))
theorem RS.ok.text {r : RS} (hr : r.ok) : r.text.2.ok := by
  have h2 := hr.num
  unfold RS.text
  split
  · exact h2
  · rename_i hb
    split
    · exact RS.fail_ok
    · exact ⟨by have := h2.len; simp; omega, h2.b.drop _, fun h => absurd h hb, fun h => absurd h hb⟩
/-! Flag. -/
noncomputable def lRg : {F : LF // lowerF Try.prog 108 = some F} := ⟨_, rfl⟩
def RS.flag (r : RS) : Bool × RS := match rflag r.xs with
  | some (f, rest) => (f, ⟨false, rest, r.bad⟩)
  | none => (false, RS.fail)
theorem RS.ok.flag {r : RS} (hr : r.ok) : r.flag.2.ok := by
  unfold RS.flag
  split
  · rename_i n rest h
    obtain ⟨h1, h2⟩ := rflag_inv hr.b h
    have := hr.len
    rw [h1] at this
    exact ⟨by simp [flagB] at this; simp only; omega, h2, fun hb => by rw [hr.e hb] at h; simp [rflag] at h, fun hb => by rw [hr.e hb] at h; simp [rflag] at h⟩
  · exact RS.fail_ok
theorem rflag_spec (r : RS) (hr : r.ok) : CallS Try.prog base 108 [.c (.ptr 0 0)] (hR r) (.c (.p (.bs r.flag.1))) (hR r.flag.2) := by
  have hlen := hr.len
  refine CallS.of noNG lRg.2 rfl (M.start (M.go rfl ?_))
  rw [u8P_len]
  refine M.dec rfl (fun h1 => ?_) (fun h1 => ?_)
  · have he : r.flag = (false, RS.fail) := by
      have : r.xs = [] := List.eq_nil_of_length_eq_zero (by omega)
      simp [RS.flag, rflag, this]
    rw [he]
    refine M.go rfl ?_
    refine M.use (by first | exact True.intro | exact rfl) (rfail_spec r) [(0, 0)] rfl rfl rfl (by repeat' (first | exact True.intro | refine hpC rfl rfl rfl ?_ | refine ⟨⟨_, _, _, rfl, rfl, rfl, @WkO.rfl _⟩, ?_⟩ | refine HeapOK.acc rfl rfl ?_)) rfl rfl ?_
    refine M.go rfl ?_
    exact M.ret (M.go rfl (M.done (finQ.ret [(0, 0)] rfl rfl rfl (by first | exact Wk.rfl | exact Wk.uncap | exact Wk.nil | exact Wk.b1 rfl | exact Wk.t2 Wk.rfl (Wk.b1 rfl)) (by repeat' (first | exact True.intro | refine hpC rfl rfl rfl ?_ | refine ⟨⟨_, _, _, rfl, rfl, rfl, @WkO.rfl _⟩, ?_⟩ | refine HeapOK.acc rfl rfl ?_)))))
  · obtain ⟨x, rest, hx⟩ : ∃ x rest, r.xs = x :: rest := by
      cases h : r.xs with
      | nil => rw [h] at h1; simp at h1
      | cons x rest => exact ⟨_, _, rfl⟩
    have hb := hr.b x (by rw [hx]; simp)
    have hu : (u8P r.xs)[(0 : Int).toNat]? = some (.int .u8 x) := by rw [hx]; rfl
    refine M.go rfl ?_
    refine M.op rfl (SOp.ia rfl rfl (by omega) hu) ?_
    refine M.op rfl (SOp.ld1e rfl hu rfl rfl rfl) ?_
    refine M.go rfl ?_
    refine M.cond rfl (fun h2 => ?_) (fun h2 => ?_)
    · have he : r.flag = (false, RS.fail) := by simp [RS.flag, rflag, hx, show ¬ x ≤ 1 by omega]
      rw [he]
      refine M.go rfl ?_
      refine M.use (by first | exact True.intro | exact rfl) (rfail_spec r) [(0, 0)] rfl rfl rfl (by repeat' (first | exact True.intro | refine hpC rfl rfl rfl ?_ | refine ⟨⟨_, _, _, rfl, rfl, rfl, @WkO.rfl _⟩, ?_⟩ | refine HeapOK.acc rfl rfl ?_)) rfl rfl ?_
      refine M.go rfl ?_
      exact M.ret (M.go rfl (M.done (finQ.ret [(0, 0)] rfl rfl rfl (by first | exact Wk.rfl | exact Wk.uncap | exact Wk.nil | exact Wk.b1 rfl | exact Wk.t2 Wk.rfl (Wk.b1 rfl)) (by repeat' (first | exact True.intro | refine hpC rfl rfl rfl ?_ | refine ⟨⟨_, _, _, rfl, rfl, rfl, @WkO.rfl _⟩, ?_⟩ | refine HeapOK.acc rfl rfl ?_)))))
    · have he : r.flag = (decide (x = 1), ⟨false, rest, r.bad⟩) := by simp [RS.flag, rflag, hx, show x ≤ 1 by omega]
      rw [he]
      refine M.go rfl ?_
      refine M.op trivial (SOp.ia rfl rfl (by omega) hu) ?_
      refine M.op trivial (SOp.ld1e rfl hu rfl rfl rfl) ?_
      refine M.go rfl ?_
      refine M.op trivial (SOp.sl (l := 1) rfl ⟨_, _, rfl, by omega, rfl⟩ rfl (by rw [u8P_len, hx]; simp) (Nat.le_refl _)) ?_
      have e2 : ((u8P r.xs).drop 1).take ((u8P r.xs).length - 1) = u8P rest := by rw [hx]; simp [u8P]; exact List.take_of_length_le (by simp)
      have e3 : (r.z && (u8P r.xs).isEmpty) = false := by rw [hx]; simp [u8P]
      rw [e2, e3]
      refine M.go rfl ?_
      exact M.ret (M.go rfl (M.done (finQ.ret [(0, 0)] rfl rfl rfl (by first | exact Wk.rfl | exact Wk.uncap | exact Wk.nil | exact Wk.b1 rfl | exact Wk.t2 Wk.rfl (Wk.b1 rfl)) (by repeat' (first | exact True.intro | refine hpC rfl rfl rfl ?_ | refine ⟨⟨_, _, _, rfl, rfl, rfl, @WkO.rfl _⟩, ?_⟩ | refine HeapOK.acc rfl rfl ?_)))))
end Go.Proofs.Ytjlfojgacnphmaa

namespace Go.Proofs.Ytjlfojgacnphmaa
open Go.RowKit Sim Go Sym
variable {base : Nat}
end Go.Proofs.Ytjlfojgacnphmaa
