/- What an operation does, its types resolved (second part: slices, strings, structs, calls). No program in sight. -/
import Derived.Test.YtgaaffanoegbhaaSymG
namespace Go.Proofs.Ytgaaffanoegbhaa.Sym
open Go Go.RowKit Go.Proofs.Ytgaaffanoegbhaa.Sim
set_option linter.unusedSimpArgs false
set_option linter.unusedVariables false
section ops
variable {P : Program} {base n k : Nat} {e : Env} {h : HS} {Q : QX}
/-! Calls. -/
open Classical in
/-- The calls that are known: one. -/
noncomputable def oneCall (f : FuncId) (args : List SV) (h : SH) (r : SV) (h' : SH) : FuncId → List SV → SH → Option (SV × SH) :=
  fun f' a' h0 => if f' = f ∧ a' = args ∧ h0 = h then some (r, h') else none
theorem oneCall_ok {f : FuncId} {args : List SV} {h : SH} {r : SV} {h' : SH} (C : Call P base f args h r h') : CallOK P base (oneCall f args h r h') := by
  intro f' a' h0 v h1 hs
  unfold oneCall at hs
  split at hs
  · rename_i hc
    obtain ⟨rfl, rfl, rfl⟩ := hc
    simp only [Option.some.injEq, Prod.mk.injEq] at hs
    obtain ⟨rfl, rfl⟩ := hs
    exact ⟨C.fn, C.run⟩
  · cases hs
theorem extern_none {f : FuncId} {args : List SV} {h : SH} (hb : hasBody P f = true) : sExtern P f args h = none := by
  unfold hasBody at hb
  unfold sExtern
  split at hb
  · rename_i fn hf
    rw [hf]
    obtain ⟨b, hb⟩ := Option.isSome_iff_exists.1 hb
    simp only [hb]
  · cases hb
theorem step_call {call : FuncId → List SV → SH → Option (SV × SH)} {f : FuncId} {as : List LX} {vs : List XV} {r : XV} {h' : HS} (ha : xevs e as = some vs) (hc : call f (vs.map XV.sv) h.sh = some (r.sv, h'.sh)) (o : Oper) (hw : Lw P o.op (.call f as)) :
    Sim.step P call (toSF n e) h.sh o = some (r.sv, h'.sh) := by
  generalize ho : o.op = op at hw
  cases hw with
  | call h1 h2 => simp only [Sim.step, ho, xevs_evs h1 ha, extern_none h2, hc]
theorem XR.call {d : Option Nat} {f : FuncId} {as : List LX} {l : List LOp} {vs : List XV} {r : XV} {h' : HS} (ha : xevs e as = some vs) (C : Call P base f (vs.map XV.sv) h.sh r.sv h'.sh) (hx : XR P base n k l (push d r e) h' Q) :
    XR P base n k (⟨none, d, .call f as⟩ :: l) e h Q :=
  XR.step (oneCall f (vs.map XV.sv) h.sh r.sv h'.sh) (oneCall_ok C) (fun ops o hg => by
    unfold lowG at hg
    split at hg
    · rename_i h1; unfold wantedS; rw [h1]
    · repeat' split at hg
      all_goals simp at hg) (fun o hl => step_call ha (by simp [oneCall]) o hl) hx
theorem XR.callG {s : Nat} {g : Bool} {d : Option Nat} {f : FuncId} {as : List LX} {l : List LOp} {vs : List XV} {r : XV} {h' : HS} (hg : look e s = some (.c (.p (.bool g)))) (ha : xevs e as = some vs) (C : Call P base f (vs.map XV.sv) h.sh r.sv h'.sh) (hx : XR P base n k l (push d r e) h' Q) :
    XR P base n k (⟨some (s, g), d, .call f as⟩ :: l) e h Q :=
  XR.step (oneCall f (vs.map XV.sv) h.sh r.sv h'.sh) (oneCall_ok C) (fun ops o hg' => by rw [wanted_of hg' hg]; simp [XV.sv, XC.sc, PC.sc]) (fun o hl => step_call ha (by simp [oneCall]) o hl) hx
/-- A contract is used. -/
theorem XR.use {d : Option Nat} {f : FuncId} {as : List LX} {l : List LOp} {vs args : List XV} {r r2 : XV} {hs hs' : HS} (C : CallS P base f args hs r hs') (ρ : List (Nat × Nat)) (ha : xevs e as = some vs) (hv : XV.rens (look ρ) args = some vs) (hρ : rhoIn ρ hs h.next = true) (hh : HeapOK (look ρ) h hs.l)
    {l2 : List (Nat × Option XO)} (hr2 : r.ren (gOf ρ hs.next h.next) = some r2) (hl2 : frameL (gOf ρ hs.next h.next) hs'.l = some l2) (hx : XR P base n k l (push d r2 e) ⟨appL l2 (appL (drops ρ) h.l), h.next + (hs'.next - hs.next)⟩ Q) :
    XR P base n k (⟨none, d, .call f as⟩ :: l) e h Q := XR.call ha (C.use ρ hρ hv hh hr2 hl2) hx
theorem XR.useG {s : Nat} {g : Bool} {d : Option Nat} {f : FuncId} {as : List LX} {l : List LOp} {vs args : List XV} {r r2 : XV} {hs hs' : HS} (C : CallS P base f args hs r hs') (ρ : List (Nat × Nat)) (hg : look e s = some (.c (.p (.bool g)))) (ha : xevs e as = some vs) (hv : XV.rens (look ρ) args = some vs) (hρ : rhoIn ρ hs h.next = true) (hh : HeapOK (look ρ) h hs.l)
    {l2 : List (Nat × Option XO)} (hr2 : r.ren (gOf ρ hs.next h.next) = some r2) (hl2 : frameL (gOf ρ hs.next h.next) hs'.l = some l2) (hx : XR P base n k l (push d r2 e) ⟨appL l2 (appL (drops ρ) h.l), h.next + (hs'.next - hs.next)⟩ Q) :
    XR P base n k (⟨some (s, g), d, .call f as⟩ :: l) e h Q := XR.callG hg ha (C.use ρ hρ hv hh hr2 hl2) hx
/-! Lengths. -/
theorem SOp.len {x : LX} {z : Bool} {s : Nat} {el : List PC} {c : Option Nat} (hx : xev e x = some (.c (.p (.tz z s el c)))) : SOp P n (.len .sl x) e h (.c (.p (.int .i64 el.length))) h := ⟨fun q call hw => by
  generalize ho : q.op = op' at hw
  generalize hk : NK.sl = nk at hw
  generalize hlk : LK.len nk x = lk at hw
  cases hw <;> try (cases hlk; done)
  rename_i o as ts x' t d h1 h2 h3 h4 h5
  simp only [LK.len.injEq] at hlk
  obtain ⟨hnk, rfl⟩ := hlk
  have hd : ∃ e, d = .slice e := by
    rcases h5 with h5 | ⟨a, b, rfl⟩
    · exact h5
    · subst hk; cases hnk
  obtain ⟨u, rfl⟩ := hd
  simp only [Sim.step, ho, h2, evs, xev_ev h1 hx, sBuiltin, h3, h4, XV.sv, XC.sc, PC.sc]
  cases hz : z && el.isEmpty
  · rfl
  · have : el = [] := by simp only [Bool.and_eq_true, List.isEmpty_iff] at hz; exact hz.2
    subst this
    rfl⟩
theorem SOp.lenO {x : LX} {b o m s : Nat} {c : Option Nat} (hx : xev e x = some (.c (.sl b o m s c))) : SOp P n (.len .sl x) e h (.c (.p (.int .i64 m))) h := ⟨fun q call hw => by
  generalize ho : q.op = op' at hw
  generalize hk : NK.sl = nk at hw
  generalize hlk : LK.len nk x = lk at hw
  cases hw <;> try (cases hlk; done)
  rename_i o as ts x' t d h1 h2 h3 h4 h5
  simp only [LK.len.injEq] at hlk
  obtain ⟨hnk, rfl⟩ := hlk
  have hd : ∃ e, d = .slice e := by
    rcases h5 with h5 | ⟨a, b, rfl⟩
    · exact h5
    · subst hk; cases hnk
  obtain ⟨u, rfl⟩ := hd
  simp only [Sim.step, ho, h2, evs, xev_ev h1 hx, sBuiltin, h3, h4, XV.sv, XC.sc, PC.sc]
  rfl⟩
theorem SOp.lenA {x : LX} {b s : Nat} {el : List PC} (hx : xev e x = some (.c (.acc b s el))) : SOp P n (.len .sl x) e h (.c (.p (.int .i64 el.length))) h := by
  have h1 : ∀ (x : LX) (e : Env) (v : XV), xev e x = some v → xev [(0, v)] (.t 0) = some v := fun _ _ _ _ => rfl
  cases el with
  | nil =>
    refine ⟨fun q call hw => ?_⟩
    have := (SOp.len (P := P) (n := n) (h := h) (e := [(0, .c (.p (.tz true 0 [] none)))]) (x := .t 0) rfl).run
    generalize ho : q.op = op' at hw
    generalize hk : NK.sl = nk at hw
    generalize hlk : LK.len nk x = lk at hw
    cases hw <;> try (cases hlk; done)
    rename_i o as ts x' t d h1 h2 h3 h4 h5
    simp only [LK.len.injEq] at hlk
    obtain ⟨hnk, rfl⟩ := hlk
    have hd : ∃ e, d = .slice e := by
      rcases h5 with h5 | ⟨a, b, rfl⟩
      · exact h5
      · subst hk; cases hnk
    obtain ⟨u, rfl⟩ := hd
    simp only [Sim.step, ho, h2, evs, xev_ev h1 hx, sBuiltin, h3, h4, XV.sv, XC.sc, PC.sc]
    rfl
  | cons y l =>
    refine ⟨fun q call hw => ?_⟩
    generalize ho : q.op = op' at hw
    generalize hk : NK.sl = nk at hw
    generalize hlk : LK.len nk x = lk at hw
    cases hw <;> try (cases hlk; done)
    rename_i o as ts x' t d h1 h2 h3 h4 h5
    simp only [LK.len.injEq] at hlk
    obtain ⟨hnk, rfl⟩ := hlk
    have hd : ∃ e, d = .slice e := by
      rcases h5 with h5 | ⟨a, b, rfl⟩
      · exact h5
      · subst hk; cases hnk
    obtain ⟨u, rfl⟩ := hd
    simp only [Sim.step, ho, h2, evs, xev_ev h1 hx, sBuiltin, h3, h4, XV.sv, XC.sc, PC.sc]
    rfl
theorem SOp.lenStr {x : LX} {l : List Nat} (hx : xev e x = some (.c (.p (.str l)))) : SOp P n (.lenStr x) e h (.c (.p (.int .i64 l.length))) h := ⟨fun q call hw => by
  generalize ho : q.op = op' at hw
  cases hw with
  | lenStr h1 h2 h3 h4 =>
    simp only [Sim.step, ho, h2, evs, xev_ev h1 hx, sBuiltin, h3, h4, XV.sv, XC.sc, PC.sc]
    rfl⟩
theorem SOp.min {x y : LX} {i j : IntKind} {a b : Int} (hx : xev e x = some (.c (.p (.int i a)))) (hy : xev e y = some (.c (.p (.int j b)))) : SOp P n (.min x y) e h (.c (.p (.int i (if b < a then b else a)))) h := ⟨fun q call hw => by
  generalize ho : q.op = op' at hw
  cases hw with
  | min h1 h2 h3 => simp only [Sim.step, ho, h3, evs, xev_ev h1 hx, xev_ev h2 hy, sBuiltin, XV.sv, XC.sc, PC.sc]⟩
theorem SOp.max {x y : LX} {i j : IntKind} {a b : Int} (hx : xev e x = some (.c (.p (.int i a)))) (hy : xev e y = some (.c (.p (.int j b)))) : SOp P n (.max x y) e h (.c (.p (.int i (if a < b then b else a)))) h := ⟨fun q call hw => by
  generalize ho : q.op = op' at hw
  cases hw with
  | max h1 h2 h3 => simp only [Sim.step, ho, h3, evs, xev_ev h1 hx, xev_ev h2 hy, sBuiltin, XV.sv, XC.sc, PC.sc]⟩
/-! Strings. -/
theorem SOp.ix {x i : LX} {l : List Nat} {j : IntKind} {m : Int} {b : Nat} (hx : xev e x = some (.c (.p (.str l)))) (hi : xev e i = some (.c (.p (.int j m)))) (h0 : 0 ≤ m) (hb : l[m.toNat]? = some b) : SOp P n (.ix x i) e h (.c (.p (.int .u8 b))) h := ⟨fun q call hw => by
  generalize ho : q.op = op' at hw
  cases hw with
  | ix h1 h2 h3 => simp only [Sim.step, ho, xev_ev h1 hx, xev_ev h2 hi, XV.sv, XC.sc, PC.sc, sIndex, h3, idx, if_pos h0, hb, Option.map_some]⟩
theorem SOp.cvSB {x : LX} {l : List Nat} (hx : xev e x = some (.c (.p (.str l)))) (hl : l.length ≤ 140737488355328) : SOp P n (.cvSB x) e h (.c (.sl h.next 0 l.length 1 none)) (h.newO (.els 1 (l.map fun (b : Nat) => PC.int .u8 b))) := ⟨fun q call hw => by
  generalize ho : q.op = op' at hw
  cases hw with
  | cvSB h1 h2 h3 h4 =>
    have hf : ∀ l : List Nat, flatE 1 (l.map fun (b : Nat) => PC.int .u8 b) = l.map fun (b : Nat) => SC.int .u8 (b : Int) := by
      intro l
      induction l with
      | nil => rfl
      | cons b l ih => simp only [List.map_cons, flatE, ih]; rfl
    simp only [Sim.step, ho, xev_ev h1 hx, XV.sv, XC.sc, PC.sc, sConvert, h2, h3, h4, if_pos hl]
    rw [← hf l]; rfl⟩
def byX : PC → Option Nat
  | .int .u8 n => if 0 ≤ n ∧ n < 256 then some n.toNat else none
  | _ => none
def bytesX : List PC → Option (List Nat)
  | [] => some []
  | x :: l => match byX x, bytesX l with
    | some b, some r => some (b :: r)
    | _, _ => none
theorem bytesX_flat : ∀ {el : List PC} {l : List Nat}, bytesX el = some l → bytesOf' (flatE 1 el) = some l
  | [], l, h => by simp only [bytesX, Option.some.injEq] at h; subst h; rfl
  | x :: el, l, h => by
    simp only [bytesX] at h
    split at h
    · rename_i b r h1 h2
      simp only [Option.some.injEq] at h
      subst h
      unfold byX at h1
      split at h1
      · rename_i m
        have : flatE 1 (PC.int .u8 m :: el) = SC.int .u8 m :: flatE 1 el := by simp only [flatE]; rfl
        rw [this]
        simp only [bytesOf', byteOf', h1, bytesX_flat h2]
      · cases h1
    · cases h
theorem bytesX_map {l : List Nat} (hl : ∀ b ∈ l, b < 256) : bytesX (l.map fun (b : Nat) => PC.int .u8 b) = some l := by
  induction l with
  | nil => rfl
  | cons b l ih =>
    have h1 := hl b (List.mem_cons_self ..)
    simp only [List.map_cons, bytesX, byX, ih fun b hb => hl b (List.mem_cons_of_mem _ hb)]
    rw [if_pos ⟨by omega, by omega⟩]; simp
theorem SOp.cvBS {x : LX} {z : Bool} {el : List PC} {c : Option Nat} {l : List Nat} (hx : xev e x = some (.c (.p (.tz z 1 el c)))) (hl : bytesX el = some l) : SOp P n (.cvBS x) e h (.c (.p (.str l))) h := ⟨fun q call hw => by
  generalize ho : q.op = op' at hw
  cases hw with
  | cvBS h1 h2 h3 h4 =>
    simp only [Sim.step, ho, xev_ev h1 hx, XV.sv, XC.sc, PC.sc, sConvert, h2, h3, h4]
    cases hz : z && el.isEmpty
    · simp only [cond_false, bytesX_flat hl]; rfl
    · have : el = [] := by simp only [Bool.and_eq_true, List.isEmpty_iff] at hz; exact hz.2
      subst this
      simp only [bytesX, Option.some.injEq] at hl
      subst hl
      rfl⟩
theorem SOp.cvO {x : LX} {b m s : Nat} {el : List PC} {c : Option Nat} (hx : xev e x = some (.c (.sl b 0 m s c))) (hb : h.get b = some (.els s el)) (hm : 0 < m) : SOp P n (.cvO x) e h (.c (.sl b 0 m s c)) h := ⟨fun q call hw => by
  generalize ho : q.op = op' at hw
  cases hw with
  | cvO h1 h2 h3 h4 =>
    subst h2
    simp only [Sim.step, ho, xev_ev h1 hx, XV.sv, XC.sc, sConvert, h3, h4, get_els hb]
    rw [if_pos ⟨trivial, hm⟩]⟩
theorem SOp.cvBSO {x : LX} {b m : Nat} {el : List PC} {c : Option Nat} {l : List Nat} (hx : xev e x = some (.c (.sl b 0 m 1 c))) (hb : h.get b = some (.els 1 el)) (hm : m = el.length) (hl : bytesX el = some l) : SOp P n (.cvBS x) e h (.c (.p (.str l))) h := ⟨fun q call hw => by
  generalize ho : q.op = op' at hw
  cases hw with
  | cvBS h1 h2 h3 h4 =>
    have hlen : (flatE 1 el).length = m := by rw [flatE_len, hm, Nat.mul_one]
    have hr : (if 0 + m ≤ (flatE 1 el).length then some (((flatE 1 el).drop 0).take m) else none) = some (flatE 1 el) := by rw [if_pos (by omega), List.drop_zero, List.take_of_length_le (by omega)]
    simp only [Sim.step, ho, xev_ev h1 hx, XV.sv, XC.sc, PC.sc, sConvert, h2, h3, h4, SH.read, get_els hb, hr, bytesX_flat hl]
    rfl⟩
/-! Bounds. -/
def BndX (e : Env) (o : Option LX) (d l : Nat) : Prop :=
  match o with
  | none => l = d
  | some x => ∃ k m, xev e x = some (.c (.p (.int k m))) ∧ 0 ≤ m ∧ l = m.toNat
def BndM (e : Env) (o : Option LX) (l : Option Nat) : Prop :=
  match o with
  | none => l = none
  | some x => ∃ k m, xev e x = some (.c (.p (.int k m))) ∧ 0 ≤ m ∧ l = some m.toNat
theorem BndX.bnd {o : Option Operand} {o' : Option LX} {d l : Nat} (ho : lowO o = some o') (hb : BndX e o' d l) : bnd (toSF n e) o d = some l := by
  cases o with
  | none =>
    simp only [lowO, Option.some.injEq] at ho
    subst ho
    have hb' : l = d := hb
    subst hb'; rfl
  | some p =>
    simp only [lowO] at ho
    split at ho
    · rename_i x hx
      simp only [Option.some.injEq] at ho
      subst ho
      obtain ⟨k, m, h1, h2, rfl⟩ := hb
      simp only [Sim.bnd, xev_ev hx h1, XV.sv, XC.sc, PC.sc, if_pos h2]
    · cases ho
theorem BndM.bnd {o : Option Operand} {o' : Option LX} {l : Option Nat} (ho : lowO o = some o') (hb : BndM e o' l) : bndM (toSF n e) o = some l := by
  cases o with
  | none =>
    simp only [lowO, Option.some.injEq] at ho
    subst ho
    have hb' : l = none := hb
    subst hb'; rfl
  | some p =>
    simp only [lowO] at ho
    split at ho
    · rename_i x hx
      simp only [Option.some.injEq] at ho
      subst ho
      obtain ⟨k, m, h1, h2, rfl⟩ := hb
      simp only [Sim.bndM, xev_ev hx h1, XV.sv, XC.sc, PC.sc, if_pos h2]
    · cases ho
theorem lowO_some {o : Option Operand} {o' : Option LX} (ho : lowO o = some o') : o.isSome = o'.isSome := by
  cases o with
  | none => simp only [lowO, Option.some.injEq] at ho; subst ho; rfl
  | some p =>
    simp only [lowO] at ho
    split at ho
    · simp only [Option.some.injEq] at ho; subst ho; rfl
    · cases ho
theorem SOp.slS {x : LX} {lo hi : Option LX} {q : List Nat} {l r : Nat} (hx : xev e x = some (.c (.p (.str q)))) (hl : BndX e lo 0 l) (hr : BndX e hi q.length r) (h1 : l ≤ r) (h2 : r ≤ q.length) : SOp P n (.slS x lo hi) e h (.c (.p (.str ((q.take r).drop l)))) h := ⟨fun o call hw => by
  generalize ho : o.op = op' at hw
  cases hw with
  | slS g1 g2 g3 g4 =>
    have h3 := BndX.bnd (n := n) g3 hl
    have h4 := BndX.bnd (n := n) g4 hr
    simp only [Sim.step, ho, xev_ev g1 hx, XV.sv, XC.sc, PC.sc, sSlice, g2, h3, h4, bndM, if_pos (And.intro h1 h2), Option.map_some]⟩
theorem take_drop_flat (s : Nat) (el : List PC) (l r : Nat) (h1 : l ≤ r) : ((flatE s el).drop (l * s)).take ((r - l) * s) = flatE s ((el.drop l).take (r - l)) := by rw [flatE_drop, flatE_take]
/-- A part of a slice that stays. -/
theorem SOp.sl {s : Nat} {x : LX} {lo hi : Option LX} {z : Bool} {el : List PC} {c : Option Nat} {l r : Nat} (hx : xev e x = some (.c (.p (.tz z s el c)))) (hl : BndX e lo 0 l) (hr : BndX e hi el.length r) (h1 : l ≤ r) (h2 : r ≤ el.length) :
    SOp P n (.sl s x lo hi none) e h (.c (.p (.tz (z && el.isEmpty) s ((el.drop l).take (r - l)) (c.map (· - l))))) h := ⟨fun o call hw => by
  generalize ho : o.op = op' at hw
  generalize hm0 : (none : Option LX) = mx0 at hw
  cases hw with
  | sl g1 g2 g3 g4 g5 g6 =>
    rename_i t o' lo' hi' mx' e'
    subst hm0
    have h3 := BndX.bnd (n := n) g4 hl
    have h4 := BndX.bnd (n := n) g5 hr
    have h5 : bndM (toSF n e) mx' = some none := BndM.bnd (n := n) (e := e) g6 rfl
    have h6 := lowO_some g6
    simp only [Sim.step, ho, xev_ev g1 hx, XV.sv, XC.sc, PC.sc, sSlice, g2, g3]
    cases hz : z && el.isEmpty
    · have hlen : ((el.drop l).take (r - l)).length = r - l := by simp; omega
      simp only [cond_false, g3, h3, h4, h5, Bool.false_and]
      rw [if_pos ⟨h1, h2, trivial, fun hh => by simp at hh⟩]
      simp only [Option.map_some, take_drop_flat s el l r h1, hlen]
    · have : el = [] := by simp only [Bool.and_eq_true, List.isEmpty_iff] at hz; exact hz.2
      subst this
      have hr0 : r = 0 := by simpa using h2
      subst hr0
      have hl0 : l = 0 := by omega
      subst hl0
      simp only [cond_true, g3, h3, show bnd (toSF n e) hi' 0 = some 0 from h4, h5, Option.map_some]
      rfl⟩
theorem SOp.slM {s : Nat} {x : LX} {lo : Option LX} {hi mx : LX} {z : Bool} {el : List PC} {c : Option Nat} {l r m : Nat} (hx : xev e x = some (.c (.p (.tz z s el c)))) (hl : BndX e lo 0 l) (hr : BndX e (some hi) el.length r) (hm : BndM e (some mx) (some m)) (h1 : l ≤ r) (h2 : r ≤ m) (h3 : m ≤ el.length) :
    SOp P n (.sl s x lo (some hi) (some mx)) e h (.c (.p (.tz (z && el.isEmpty) s ((el.drop l).take (r - l)) (some (m - l))))) h := ⟨fun o call hw => by
  generalize ho : o.op = op' at hw
  cases hw with
  | sl g1 g2 g3 g4 g5 g6 =>
    rename_i t o' lo' hi' mx' e'
    have h4 := BndX.bnd (n := n) g4 hl
    have h5 := BndX.bnd (n := n) g5 hr
    have h6 := BndM.bnd (n := n) g6 hm
    have h7 := lowO_some g5
    simp only [Option.isSome_some] at h7
    simp only [Sim.step, ho, xev_ev g1 hx, XV.sv, XC.sc, PC.sc, sSlice, g2, g3]
    cases hz : z && el.isEmpty
    · have hlen : ((el.drop l).take (r - l)).length = r - l := by simp; omega
      simp only [cond_false, g3, h4, h5, h6, Bool.false_and]
      rw [if_pos ⟨h1, by omega, trivial, fun _ => h7⟩, if_pos ⟨h2, h3⟩]
      simp only [Option.map_some, take_drop_flat s el l r h1, hlen]
    · have : el = [] := by simp only [Bool.and_eq_true, List.isEmpty_iff] at hz; exact hz.2
      subst this
      have hm0 : m = 0 := by simpa using h3
      subst hm0
      have hr0 : r = 0 := by omega
      subst hr0
      have hl0 : l = 0 := by omega
      subst hl0
      simp only [cond_true, g3, h4, show bnd (toSF n e) hi' 0 = some 0 from h5, h6, h7, if_true, Option.map_some]
      rfl⟩
/-! Appends. -/
inductive ElsX (h : HS) (s : Nat) : XC → List PC → Prop where
  | tz {z el c} : ElsX h s (.p (.tz z s el c)) el
  | nil {s' c} : ElsX h s (.p (.tz true s' [] c)) []
  | own {b m c el} (hb : h.get b = some (.els s el)) (hm : m = el.length) : ElsX h s (.sl b 0 m s c) el
  | str {l : List Nat} (hs : s = 1) : ElsX h s (.p (.str l)) (l.map fun (b : Nat) => PC.int .u8 b)
theorem ElsX.elems {s : Nat} {y : XC} {el : List PC} (hy : ElsX h s y el) : elems h.sh s (.c y.sc) = some (el.length, flatE s el) := by
  cases hy with
  | @tz z _ c =>
    simp only [XC.sc, PC.sc]
    cases hz : z && el.isEmpty
    · simp only [cond_false, Sim.elems, if_true]
    · have : el = [] := by simp only [Bool.and_eq_true, List.isEmpty_iff] at hz; exact hz.2
      subst this
      rfl
  | nil => rfl
  | own hb hm =>
    subst hm
    have hlen : (flatE s el).length = el.length * s := flatE_len s el
    simp only [XC.sc, Sim.elems, if_true, SH.read, get_els hb]
    rw [if_pos (by omega), List.drop_zero, List.take_of_length_le (by omega)]; rfl
  | @str l hs =>
    subst hs
    have hf : ∀ l : List Nat, flatE 1 (l.map fun (b : Nat) => PC.int .u8 b) = l.map fun (b : Nat) => SC.int .u8 (b : Int) := by
      intro l
      induction l with
      | nil => rfl
      | cons b l ih => simp only [List.map_cons, flatE, ih]; rfl
    simp only [XC.sc, PC.sc, Sim.elems, if_true, List.length_map, hf]
theorem step_app {s bytes : Nat} {x y : LX} {u v : XC} {el : List PC} {r : XV} {h' : HS} (hx : xev e x = some (.c u)) (hy : xev e y = some (.c v)) (hel : ElsX h s v el)
    (hr : 0 < bytes → 0 < s → (match SV.c u.sc with
        | .c .nils => if el.length = 0 then some (SV.c u.sc, h.sh) else
          if el.length * bytes ≤ 140737488355328 ∧ 0 < bytes ∧ 0 < s then some (.c (.sl h.sh.next 0 el.length s none), h.sh.new (flatE s el)) else none
        | .c .em => if el.length = 0 then some (SV.c u.sc, h.sh) else none
        | .c (.fz n s' l (some c)) => if el.length = 0 then some (SV.c u.sc, h.sh) else
          if (n + el.length) * bytes ≤ 140737488355328 ∧ 0 < bytes ∧ 0 < s ∧ s' = s ∧ c < n + el.length then some (.c (.sl h.sh.next 0 (n + el.length) s' none), h.sh.new (l ++ flatE s el)) else none
        | .c (.fz _ _ _ none) => if el.length = 0 then some (SV.c u.sc, h.sh) else none
        | .c (.sl b o n s' c) => if el.length = 0 then some (SV.c u.sc, h.sh) else
          if (n + el.length) * bytes ≤ 140737488355328 ∧ 0 < bytes ∧ 0 < s ∧ s' = s then
            match h.sh.get b with
            | some (.row cs own) =>
              if roomB c (n + el.length) o s' cs.length = true then
                (h.sh.write b (o + n * s') (flatE s el)).map fun h => (.c (.sl b o (n + el.length) s' c), h)
              else if o + n * s' ≤ cs.length ∧ (c.isSome = true ∨ own = true) then
                some (.c (.sl h.sh.next 0 (n + el.length) s' none), (if c.isSome then h.sh else h.sh.put b none).new ((cs.drop o).take (n * s') ++ flatE s el))
              else none
            | _ => none
          else none
        | _ => none) = some (r.sv, h'.sh)) : SOp P n (.app s bytes x y) e h r h' := ⟨fun o call hw => by
  generalize ho : o.op = op' at hw
  generalize hlk : LK.app s bytes x y = lk at hw
  cases hw <;> try (cases hlk; done)
  rename_i o1 p1 as ts x1 y1 t u1 e1 i z d g1 g2 g3 g4 g5 g6 g7 g8 g9 g10 g11 g12 g13
  simp only [LK.app.injEq] at hlk
  obtain ⟨rfl, rfl, rfl, rfl⟩ := hlk
  have h1 := hel.elems
  have h2 := hr g12 g13
  simp only [Sim.step, ho, g3, evs, xev_ev g1 hx, xev_ev g2 hy, sBuiltin, g4, g5, g6]
  have hA : sAppend P t h.sh (XV.sv (.c u)) (XV.sv (.c v)) = some (r.sv, h'.sh) := by
    simp only [XV.sv, sAppend, g8, g9, g10, g11, ne_eq, not_true, if_false, h1]
    rw [← h2]
    rfl
  cases d <;> first | exact absurd rfl (g7 _) | exact hA⟩
/-- Nothing is appended. -/
theorem SOp.app0 {s bytes : Nat} {x y : LX} {u v : XC} (hx : xev e x = some (.c u)) (hy : xev e y = some (.c v)) (hel : ElsX h s v []) (hu : (∃ b o m s' c, u = .sl b o m s' c) ∨ ∃ z s' l c, u = .p (.tz z s' l c)) : SOp P n (.app s bytes x y) e h (.c u) h :=
  step_app hx hy hel fun _ _ => by
    rcases hu with ⟨b, o, m, s', c, rfl⟩ | ⟨z, s', l, c, rfl⟩
    · rfl
    · simp only [XV.sv, XC.sc, PC.sc]
      cases z && l.isEmpty
      · cases c <;> rfl
      · rfl
/-- To nil. -/
theorem SOp.appN {s bytes s' : Nat} {x y : LX} {v : XC} {c : Option Nat} {el : List PC} (hx : xev e x = some (.c (.p (.tz true s' [] c)))) (hy : xev e y = some (.c v)) (hel : ElsX h s v el) (h0 : el ≠ []) (hb : el.length * bytes ≤ 140737488355328) :
    SOp P n (.app s bytes x y) e h (.c (.sl h.next 0 el.length s none)) (h.newO (.els s el)) :=
  step_app hx hy hel fun h1 h2 => by
    have : ¬ el.length = 0 := fun e => h0 (List.eq_nil_of_length_eq_zero e)
    simp only [XC.sc, PC.sc, List.isEmpty_nil, Bool.and_self, cond_true, if_neg this]
    rw [if_pos ⟨hb, h1, h2⟩]
    rfl
/-- To what stays, with no room behind it. -/
theorem SOp.appC {s bytes c : Nat} {x y : LX} {v : XC} {z : Bool} {ex el : List PC} (hx : xev e x = some (.c (.p (.tz z s ex (some c))))) (hy : xev e y = some (.c v)) (hel : ElsX h s v el) (h0 : el ≠ []) (hc : c < ex.length + el.length) (hb : (ex.length + el.length) * bytes ≤ 140737488355328) :
    SOp P n (.app s bytes x y) e h (.c (.sl h.next 0 (ex.length + el.length) s none)) (h.newO (.els s (ex ++ el))) :=
  step_app hx hy hel fun h1 h2 => by
    have h3 : ¬ el.length = 0 := fun e => h0 (List.eq_nil_of_length_eq_zero e)
    simp only [XC.sc, PC.sc]
    cases hz : z && ex.isEmpty
    · simp only [cond_false, if_neg h3]
      rw [if_pos ⟨hb, h1, h2, trivial, hc⟩, ← flatE_app]
      rfl
    · have : ex = [] := by simp only [Bool.and_eq_true, List.isEmpty_iff] at hz; exact hz.2
      subst this
      simp only [cond_true, if_neg h3]
      rw [if_pos ⟨by simpa using hb, h1, h2⟩]
      simp only [List.length_nil, Nat.zero_add, List.nil_append]
      rfl
/-- To one's own, with no room that is known of. -/
theorem SOp.appO {s bytes b m : Nat} {x y : LX} {v : XC} {ex el : List PC} (hx : xev e x = some (.c (.sl b 0 m s none))) (hb : h.get b = some (.els s ex)) (hm : m = ex.length) (hy : xev e y = some (.c v)) (hel : ElsX h s v el) (h0 : el ≠ []) (hc : (ex.length + el.length) * bytes ≤ 140737488355328) :
    SOp P n (.app s bytes x y) e h (.c (.sl h.next 0 (ex.length + el.length) s none)) ((h.put b none).newO (.els s (ex ++ el))) :=
  step_app hx hy hel fun h1 h2 => by
    subst hm
    have h3 : ¬ el.length = 0 := fun e => h0 (List.eq_nil_of_length_eq_zero e)
    have h4 : (flatE s ex).length = ex.length * s := flatE_len s ex
    have h5 : ¬ (roomB none (ex.length + el.length) 0 s (flatE s ex).length = true) := by
      simp only [roomB, h4, Nat.ble_eq, Nat.add_mul, Nat.zero_add, Nat.not_le]
      have : 0 < el.length * s := Nat.mul_pos (by omega) h2
      omega
    simp only [XC.sc, if_neg h3, get_els hb]
    rw [if_pos ⟨hc, h1, h2, trivial⟩, if_neg h5, if_pos ⟨by omega, .inr trivial⟩]
    simp only [Option.isSome_none, Bool.false_eq_true, if_false, List.drop_zero]
    rw [List.take_of_length_le (by omega), ← flatE_app]
    rfl
/-- To one's own, of a capacity that is known, and full. -/
theorem SOp.appF {s bytes b m c : Nat} {x y : LX} {v : XC} {ex el : List PC} (hx : xev e x = some (.c (.sl b 0 m s (some c)))) (hb : h.get b = some (.els s ex)) (hm : m = ex.length) (hcm : c < ex.length + el.length) (hy : xev e y = some (.c v)) (hel : ElsX h s v el) (h0 : el ≠ []) (hc : (ex.length + el.length) * bytes ≤ 140737488355328) :
    SOp P n (.app s bytes x y) e h (.c (.sl h.next 0 (ex.length + el.length) s none)) (h.newO (.els s (ex ++ el))) :=
  step_app hx hy hel fun h1 h2 => by
    subst hm
    have h3 : ¬ el.length = 0 := fun e => h0 (List.eq_nil_of_length_eq_zero e)
    have h4 : (flatE s ex).length = ex.length * s := flatE_len s ex
    have h5 : ¬ (roomB (some c) (ex.length + el.length) 0 s (flatE s ex).length = true) := by
      simp only [roomB, Nat.ble_eq, Nat.not_le]
      omega
    simp only [XC.sc, if_neg h3, get_els hb]
    rw [if_pos ⟨hc, h1, h2, trivial⟩, if_neg h5, if_pos ⟨by omega, .inl rfl⟩]
    simp only [Option.isSome_some, if_true, List.drop_zero]
    rw [List.take_of_length_le (by omega), ← flatE_app]
    rfl
theorem SOp.sv {lk : LK} {v v' : XV} {h' : HS} (ho : SOp P n lk e h v h') (hv : v'.sv = v.sv) : SOp P n lk e h v' h' := ⟨fun o call hl => by rw [hv]; exact ho.run o call hl⟩
/-- To what grows from nil on. -/
theorem SOp.appA0 {s bytes b : Nat} {x y : LX} {v : XC} {el : List PC} (hx : xev e x = some (.c (.acc b s []))) (hy : xev e y = some (.c v)) (hel : ElsX h s v el) (h0 : el ≠ []) (hb : el.length * bytes ≤ 140737488355328) :
    SOp P n (.app s bytes x y) e h (.c (.acc h.next s el)) (h.newO (.els s el)) :=
  step_app hx hy hel fun h1 h2 => by
    have : ¬ el.length = 0 := fun e => h0 (List.eq_nil_of_length_eq_zero e)
    have hs : el.isEmpty = false := by cases el <;> simp_all
    simp only [XV.sv, XC.sc, hs, List.isEmpty_nil, cond_true, cond_false, if_neg this]
    rw [if_pos ⟨hb, h1, h2⟩]
    rfl
theorem SOp.appA {s bytes b : Nat} {x y : LX} {v : XC} {x0 : PC} {ex el : List PC} (hx : xev e x = some (.c (.acc b s (x0 :: ex)))) (hb : h.get b = some (.els s (x0 :: ex))) (hy : xev e y = some (.c v)) (hel : ElsX h s v el) (h0 : el ≠ []) (hc : ((x0 :: ex).length + el.length) * bytes ≤ 140737488355328) :
    SOp P n (.app s bytes x y) e h (.c (.acc h.next s (x0 :: ex ++ el))) ((h.put b none).newO (.els s (x0 :: ex ++ el))) :=
  step_app hx hy hel fun h1 h2 => by
    have h3 : ¬ el.length = 0 := fun e => h0 (List.eq_nil_of_length_eq_zero e)
    have h4 : (flatE s (x0 :: ex)).length = (x0 :: ex).length * s := flatE_len s _
    have h5 : ¬ (roomB none ((x0 :: ex).length + el.length) 0 s (flatE s (x0 :: ex)).length = true) := by
      simp only [roomB, h4, Nat.ble_eq, Nat.add_mul, Nat.zero_add, Nat.not_le]
      have : 0 < el.length * s := Nat.mul_pos (by omega) h2
      omega
    have hi : (x0 :: ex ++ el).isEmpty = false := rfl
    simp only [XV.sv, XC.sc, hi, List.isEmpty_cons, cond_false, if_neg h3, get_els hb]
    rw [if_pos ⟨hc, h1, h2, trivial⟩, if_neg h5, if_pos ⟨by omega, .inr trivial⟩]
    simp only [Option.isSome_none, Bool.false_eq_true, if_false, List.drop_zero]
    rw [List.take_of_length_le (by omega), ← flatE_app, List.length_append]
    rfl
/-! Structs and slices that are written out. -/
def XV.pc : XV → Option PC
  | .c (.p x) => match x.one with
    | true => some x
    | false => none
  | .agg l => match pcs l with
    | some r => some (.agg r)
    | none => none
  | _ => none
where pcs : List XC → Option (List PC)
  | [] => some []
  | .p x :: l => match pcs l with
    | some r => some (x :: r)
    | none => none
  | _ :: _ => none
theorem pcs_eq : ∀ {l : List XC} {r : List PC}, XV.pc.pcs l = some r → l.map XC.sc = r.map PC.sc
  | [], r, h => by simp only [XV.pc.pcs, Option.some.injEq] at h; subst h; rfl
  | .p x :: l, r, h => by
    simp only [XV.pc.pcs] at h
    split at h
    · rename_i q hq
      simp only [Option.some.injEq] at h
      subst h
      simp only [List.map_cons, pcs_eq hq, XC.sc]
    · cases h
  | .ptr _ _ :: _, r, h => by simp [XV.pc.pcs] at h
  | .sl _ _ _ _ _ :: _, r, h => by simp [XV.pc.pcs] at h
  | .mp _ :: _, r, h => by simp [XV.pc.pcs] at h
  | .cl _ _ _ :: _, r, h => by simp [XV.pc.pcs] at h
  | .ifc _ _ :: _, r, h => by simp [XV.pc.pcs] at h
  | .acc _ _ _ :: _, r, h => by simp [XV.pc.pcs] at h
def okEl (s : Nat) (p : PC) : Bool := p.cells.all PC.one && Nat.beq p.cells.length s
theorem pc_cells {v : XV} {p : PC} {s : Nat} (h : v.pc = some p) (ho : okEl s p = true) : ∃ cs, v.cells = some cs ∧ cs.length = s ∧ cs.map XC.sc = fit s p.flat := by
  simp only [okEl, Bool.and_eq_true] at ho
  have hl := Nat.eq_of_beq_eq_true ho.2
  have hf : fit s p.flat = p.cells.map PC.sc := by rw [PC.flat_cells ho.1]; exact fit_eq (by simpa using hl)
  cases v with
  | c x =>
    cases x <;> simp only [XV.pc] at h <;> first | (cases h; done) | skip
    split at h <;> first | (cases h; done) | skip
    simp only [Option.some.injEq] at h
    subst h
    rename_i x _ h1
    have hone : x.cells = [x] := by
      cases x with
      | agg l => cases h1
      | _ => rfl
    exact ⟨[.p x], rfl, by rw [← hl, hone]; rfl, by rw [hf, hone]; rfl⟩
  | agg l =>
    simp only [XV.pc] at h
    split at h
    · rename_i r hr
      simp only [Option.some.injEq] at h
      subst h
      refine ⟨l, rfl, ?_, ?_⟩
      · have := congrArg List.length (pcs_eq hr)
        simp only [List.length_map] at this
        rw [this]; exact hl
      · rw [hf]; exact pcs_eq hr
    · cases h
  | tup l => cases h
def bldSX (e : Env) (s : Nat) : Nat → List (Nat × LX) → Option (List PC)
  | _, [] => some []
  | k, (i, x) :: r => match Nat.beq i k, xev e x with
    | true, some v => match v.pc with
      | some p => match okEl s p, bldSX e s (k + 1) r with
        | true, some l => some (p :: l)
        | _, _ => none
      | none => none
    | _, _ => none
theorem bldSX_parts {s : Nat} {z : List SC} (hz : z.length = s) : ∀ {l : List (Nat × Operand)} {ps : List (Nat × LX)} {k : Nat} {el : List PC}, lowPb l = some ps → bldSX e s k ps = some el → ∀ (A : List SC), A.length = k * s →
    ∃ vs, evps (toSF n e) l = some vs ∧ partsIn (fun i => some (i * s, s)) (A ++ rep z el.length) vs = some (A ++ flatE s el)
  | [], ps, k, el, h, hb, A, hA => by
    simp only [lowPb, Option.some.injEq] at h; subst h
    simp only [bldSX, Option.some.injEq] at hb; subst hb
    exact ⟨[], rfl, by simp [partsIn, rep, flatE]⟩
  | (i, o) :: l, ps, k, el, h, hb, A, hA => by
    simp only [lowPb] at h
    split at h
    · rename_i x r h1 h2
      simp only [Option.some.injEq] at h
      subst h
      simp only [bldSX] at hb
      split at hb
      · rename_i v hk hv
        have hk := Nat.eq_of_beq_eq_true hk
        subst hk
        split at hb
        · rename_i p hp
          split at hb
          · rename_i el' ho hr
            simp only [Option.some.injEq] at hb
            subst hb
            obtain ⟨cs, c1, c2, c3⟩ := pc_cells hp ho
            obtain ⟨vs, g1, g2⟩ := bldSX_parts hz h2 hr (A ++ fit s p.flat) (by rw [List.length_append, hA, fit_len, Nat.add_mul]; omega)
            refine ⟨(i, v.sv) :: vs, by simp only [evps, xev_ev h1 hv, g1], ?_⟩
            simp only [partsIn, XV.cells_sv c1, List.length_map, c2]
            have hle : i * s + s ≤ (A ++ rep z (p :: el').length).length := by simp [hA, rep, hz]
            rw [if_pos ⟨trivial, hle⟩]
            have : setRange (A ++ rep z (p :: el').length) (i * s) (cs.map XC.sc) = A ++ fit s p.flat ++ rep z el'.length := by
              simp only [setRange, List.length_cons, rep, c3, fit_len]
              rw [List.take_append_of_le_length (by omega), List.take_of_length_le (by omega), List.drop_append, List.drop_eq_nil_of_le (by omega), List.nil_append, hA, show i * s + s - i * s = s by omega, ← hz]; simp
            rw [this, g2]
            simp only [flatE, List.append_assoc]
          · cases hb
        · cases hb
      · cases hb
    · cases h
theorem SOp.bldS {s m : Nat} {z : List XC} {ps : List (Nat × LX)} {el : List PC} (hp : bldSX e s 0 ps = some el) (hm : el.length = m) : SOp P n (.bldS s m z ps) e h (.c (.sl h.next 0 m s (some m))) (h.newO (.els s el)) := ⟨fun q call hw => by
  generalize ho : q.op = op' at hw
  cases hw with
  | bldS h1 h2 h3 h4 h5 h6 h7 =>
    obtain ⟨vs, g1, g2⟩ := bldSX_parts (n := n) (e := e) (z := z.map XC.sc) (by simpa using h5) h7 hp [] (by simp)
    simp only [List.nil_append] at g2
    subst hm
    simp only [Sim.step, ho, g1, sBuildSlice, h1, h2, zeroX_sc h3, List.length_map]
    rw [if_pos ⟨h4, h5, h6⟩, g2]
    rfl⟩
def bldX (e : Env) : List XC → List (Nat × Nat × LX) → Option (List XC)
  | z, [] => some z
  | z, (off, s, x) :: r => match xev e x with
    | some v => match v.cells with
      | some cs => match Nat.beq cs.length s, setN z off cs with
        | true, some z' => bldX e z' r
        | _, _ => none
      | none => none
    | none => none
theorem mapM_get {α β : Type} {g : α → Option β} : ∀ {l : List α} {r : List β}, l.mapM g = some r → ∀ (i : Nat) (a : α), l[i]? = some a → ∃ b, g a = some b ∧ r[i]? = some b
  | [], r, h, i, a, ha => by simp at ha
  | x :: l, r, h, i, a, ha => by
    rw [List.mapM_cons] at h
    simp only [Option.bind_eq_bind, Option.bind_eq_some_iff, Option.pure_def, Option.some.injEq] at h
    obtain ⟨b, h1, q, h2, rfl⟩ := h
    cases i with
    | zero => simp at ha; subst ha; exact ⟨b, h1, by simp⟩
    | succ i => simpa using mapM_get h2 i a (by simpa using ha)
theorem bldX_parts {place : Nat → Option (Nat × Nat)} (hlow : List (Nat × Operand) → Option (List (Nat × Nat × LX))) (hnil : hlow [] = some [])
    (hcons : ∀ i o l ps, hlow ((i, o) :: l) = some ps → ∃ off s x r, ps = (off, s, x) :: r ∧ lowX o = some x ∧ hlow l = some r ∧ place i = some (off, s)) :
    ∀ {l : List (Nat × Operand)} {ps : List (Nat × Nat × LX)} {z r : List XC}, hlow l = some ps → bldX e z ps = some r → ∃ vs, evps (toSF n e) l = some vs ∧ partsIn place (z.map XC.sc) vs = some (r.map XC.sc)
  | [], ps, z, r, h, hb => by
    rw [hnil] at h
    simp only [Option.some.injEq] at h; subst h
    simp only [bldX, Option.some.injEq] at hb; subst hb
    exact ⟨[], rfl, rfl⟩
  | (i, o) :: l, ps, z, r, h, hb => by
    obtain ⟨off, s, x, q, rfl, h1, h2, h3⟩ := hcons i o l ps h
    simp only [bldX] at hb
    split at hb
    · rename_i v hv
      split at hb
      · rename_i cs hc
        split at hb
        · rename_i z' hs hz
          have hs := Nat.eq_of_beq_eq_true hs
          obtain ⟨g1, g2⟩ := map_setN XC.sc hz
          obtain ⟨vs, f1, f2⟩ := bldX_parts hlow hnil hcons h2 hb
          refine ⟨(i, v.sv) :: vs, by simp only [evps, xev_ev h1 hv, f1], ?_⟩
          simp only [partsIn, h3, XV.cells_sv hc]
          rw [if_pos ⟨by simpa using hs, by simpa [hs] using g1⟩, g2, f2]
        · cases hb
      · cases hb
    · cases hb
theorem SOp.bld {z r : List XC} {ps : List (Nat × Nat × LX)} (hp : bldX e z ps = some r) : SOp P n (.bld z ps) e h (.agg r) h := ⟨fun q call hw => by
  generalize ho : q.op = op' at hw
  cases hw with
  | @bld t ps0 fs z' ps' h1 h2 h3 h4 =>
    obtain ⟨places, hpl⟩ := Option.isSome_iff_exists.1 h4
    obtain ⟨vs, g1, g2⟩ := bldX_parts (n := n) (place := (places.toArray[·]?)) (lowPs P fs) rfl (fun i o l ps h => by
      simp only [lowPs] at h
      split at h
      · rename_i f x r hf hx hr
        split at h
        · rename_i s hs
          split at h
          · rename_i off s' e1 e2
            simp only [Option.some.injEq] at h
            subst h
            refine ⟨off, s', x, r, rfl, hx, hr, ?_⟩
            obtain ⟨b, b1, b2⟩ := mapM_get hpl i f (by simpa using hf)
            rw [lit_eq e1, lit_eq e2]
            unfold szOf at hs
            split at hs
            · rename_i info hi
              simp only [Option.some.injEq] at hs
              simp only [hi, Option.map_some, Option.some.injEq] at b1
              subst b1 hs
              simpa using b2
            · cases hs
          · cases h
        · cases h
      · cases h) h3 hp
    simp only [Sim.step, ho, g1, sBuild, h1, zeroX_sc h2, hpl, g2, Option.map_some, XV.sv]
  | @bldA t ps0 m e0 z' ps' s h1 h2 h3 h4 =>
    obtain ⟨vs, g1, g2⟩ := bldX_parts (n := n) (place := fun i => some (i * s, s)) (lowPa s) rfl (fun i o l ps h => by
      simp only [lowPa] at h
      split at h
      · rename_i x r hx hr
        simp only [Option.some.injEq] at h
        subst h
        exact ⟨_, _, x, r, rfl, hx, hr, rfl⟩
      · cases h) h4 hp
    simp only [Sim.step, ho, g1, sBuild, h1, zeroX_sc h2, h3, g2, Option.map_some, XV.sv]⟩
end ops
end Go.Proofs.Ytgaaffanoegbhaa.Sym
