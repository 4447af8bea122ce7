/- From a contract without memory to what a statement asks. No program in sight. -/
import Derived.Test.YtgaaffanoegbhaaSymU
import Derived.Test.YtgaaffanoegbhaaSimC
namespace Go.Proofs.Ytgaaffanoegbhaa.Sym
open Go Go.RowKit Sim
variable {P : Program}
/-- All that is there at the start: nobody writes it. -/
def startP (w : World) : Ph := ⟨fun _ => none, fun m => w.heap[m]?⟩
theorem HR.start (w : World) : HR w.heap.size (startP w) noMem w :=
  ⟨(fun b L h => by cases h), Nat.le_refl _, (fun b q h => by cases h), (fun m o h => ⟨h, fun b L ⟨q, h1, _⟩ => by cases h1⟩), (fun b b' q L L' h => by obtain ⟨q0, h1, _⟩ := h; cases h1)⟩
/-- What a law function that returns true does. -/
theorem CallS.law {f : FuncId} {args : List XV} {w : World} (C : CallS P w.heap.size f args ⟨[], 0⟩ (.c (.p (.bool true))) ⟨[], 0⟩) {args' : List Value} (ha : All2 (VR (startP w)) (args.map XV.sv) args') :
    Calls P f args'.toArray w fun e w' => e = .returned (.bool true) ∧ Below w.heap.size w w' := by
  refine Calls.mono (C.run (startP w) args' w ha (HR.start w)) fun e w' he => ?_
  obtain ⟨v', φ', rfl, h1, -, h3⟩ := he
  have : v' = .bool true := h1
  subst this
  exact ⟨rfl, h3.os, h3.tape, h3.output, h3.size, fun k hk => h3.keep k hk fun b L ⟨q, _, _, hL⟩ => by cases hL⟩
theorem M.freezeO {base n k : Nat} {e : Env} {h : HS} {Q : QX} {K : List Fr} {i b s m : Nat} {el : List PC} {c : Option Nat} {q : List LOp} (hi : look e i = some (.c (.sl b 0 m s c))) (hb : h.get b = some (.els s el)) (hm : m = el.length) (hx : M P base n k (.ops q) K ((i, .c (.p (.tz false s el c))) :: e) (h.put b none) Q) : M P base n k (.ops q) K e h Q := ⟨XR.freeze hi hb hm hx.run⟩
theorem M.freezeRO {base n k : Nat} {e : Env} {h : HS} {Q : QX} {K : List Fr} {b0 o b s m : Nat} {el : List PC} {c : Option Nat} {r r' : List XC} {q : List LOp} (h0 : h.get b0 = some (.row r true)) (hne : Nat.beq b b0 = false) (hi : getN r o 1 = some [.sl b 0 m s c]) (hr' : setN r o [.p (.tz false s el c)] = some r') (hb : h.get b = some (.els s el)) (hm : m = el.length)
    (hx : M P base n k (.ops q) K e ((h.put b none).put b0 (some (.row r' true))) Q) : M P base n k (.ops q) K e h Q := ⟨⟨fun ops lo hl φ a w ht hr R hR => by
  obtain ⟨ψ, g1, g2, g3⟩ := freeze_row (k := k) h0 hne hi hr' hb hm ht hr
  exact hx.run.run ops lo hl _ a w g1 g2 R fun ex a' w' hp => hR _ _ _ (hp.of g3)⟩⟩
/-- A slice of one's own, its capacity forgotten. -/
theorem uncap_TR {base n : Nat} {e : Env} {h : HS} {i b s m c : Nat} {el : List PC} (hi : look e i = some (.c (.sl b 0 m s (some c)))) (hb : h.get b = some (.els s el)) (hm : m = el.length) {φ : Ph} {a : Act} {w : World} (ht : TR φ (toSF n e) a) (hr : HR base φ h.sh w) : TR φ (toSF n ((i, .c (.sl b 0 m s none)) :: e)) a := ⟨ht.n, fun j u hu => by
  rw [get_toSF, look_cons] at hu
  by_cases hj : Nat.beq i j = true
  · simp only [hj, cond_true, Option.map_some, Option.some.injEq] at hu
    have := Nat.eq_of_beq_eq_true hj
    subst this hu
    obtain ⟨g1, g2⟩ := ht.at_ i (XV.sv (.c (.sl b 0 m s (some c)))) (by rw [get_toSF, hi]; rfl)
    refine ⟨g1, ?_⟩
    obtain ⟨L, ad, cap, h1, h2, h3, h4, h5, h6, h7⟩ := g2
    obtain ⟨L', h8, h9⟩ := hr.live b _ (get_els hb)
    rw [h1] at h8
    cases h8
    refine ⟨L, ad, cap, h1, h2, h3, h4, h5, h6, ?_⟩
    have h10 : L.len = (flatE s el).length := h9.1
    rw [flatE_len] at h10
    show L.len ≤ 0 + cap * s
    have : m * s ≤ cap * s := Nat.mul_le_mul_right s h4
    subst hm
    omega
  · rw [Bool.eq_false_iff.2 hj, cond_false] at hu
    exact ht.at_ j u (by rw [get_toSF]; exact hu)⟩
theorem M.uncapS {base n k : Nat} {e : Env} {h : HS} {Q : QX} {K : List Fr} {i b s m c : Nat} {el : List PC} {q : LC} (hi : look e i = some (.c (.sl b 0 m s (some c)))) (hb : h.get b = some (.els s el)) (hm : m = el.length) (hx : M P base n k (.code q) K ((i, .c (.sl b 0 m s none)) :: e) h Q) : M P base n k (.code q) K e h Q := ⟨⟨fun code hl φ a w ht hr => hx.run.run code hl φ a w (uncap_TR hi hb hm ht hr) hr⟩⟩
/-- Calls of one function have one result. -/
def FnlP (c : Rec) : List Rec → Prop
  | [] => True
  | d :: l => ((d.f == c.f) = false ∨ (d.r = c.r ∧ d.h' = c.h')) ∧ FnlP c l
def FnlQ : List Rec → Prop
  | [] => True
  | c :: l => FnlP c l ∧ FnlQ l
theorem FnlP.get {c d : Rec} : ∀ {l : List Rec}, FnlP c l → d ∈ l → (d.f == c.f) = false ∨ (d.r = c.r ∧ d.h' = c.h')
  | [], _, h => by cases h
  | x :: l, hp, h => by
    rcases List.mem_cons.1 h with rfl | h
    · exact hp.1
    · exact FnlP.get hp.2 h
theorem Fnl.rest : ∀ {cs : List Rec}, FnlQ cs → Fnl cs
  | [], _, c, hc => by cases hc
  | c0 :: l, h, c, hc => by
    rcases List.mem_cons.1 hc with rfl | hc
    · simp [orc]
    · simp only [orc]
      split
      · rename_i e
        rcases FnlP.get h.1 hc with h1 | ⟨h1, h2⟩
        · rw [e.1] at h1; simp at h1
        · rw [h1, h2]
      · exact Fnl.rest h.2 c hc
end Go.Proofs.Ytgaaffanoegbhaa.Sym
