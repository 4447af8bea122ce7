/- Regions whose order is drawn. No program in sight. -/
import Derived.Test.YtgaaffanoegbhaaSymR
import Derived.Test.YtgaaffanoegbhaaSimC
namespace Go.Proofs.Ytgaaffanoegbhaa.Sym
open Go Go.RowKit Go.Proofs.Ytgaaffanoegbhaa.Sim
set_option linter.unusedSimpArgs false
set_option linter.unusedVariables false
/-- A call that was made. -/
structure Rec where
  f : FuncId
  args : List SV
  h : SH
  r : SV
  h' : SH
open Classical in
noncomputable def orc : List Rec → FuncId → List SV → SH → Option (SV × SH)
  | [], _, _, _ => none
  | c :: l, f, args, h => if f = c.f ∧ args = c.args ∧ h = c.h then some (c.r, c.h') else orc l f args h
/-- Each call is found again. -/
def Fnl (cs : List Rec) : Prop := ∀ c ∈ cs, orc cs c.f c.args c.h = some (c.r, c.h')
theorem Fnl.nodup : ∀ {cs : List Rec}, nodupB (cs.map (·.f)) = true → Fnl cs
  | [], _, c, hc => by simp at hc
  | c0 :: l, h, c, hc => by
    simp only [List.map_cons, nodupB, Bool.and_eq_true, Bool.not_eq_true', List.any_eq_false] at h
    rcases List.mem_cons.1 hc with rfl | hc
    · simp [orc]
    · have h1 := h.1 c.f (List.mem_map.2 ⟨c, hc, rfl⟩)
      simp only [orc]
      rw [if_neg (fun e => by rw [e.1] at h1; simp at h1)]
      exact Fnl.nodup h.2 c hc
/-- Two calls of one function, of other arguments or with one result. -/
theorem Fnl.two {c d : Rec} (h : (d.f = c.f ∧ d.args = c.args ∧ d.h = c.h) → (d.r = c.r ∧ d.h' = c.h')) : Fnl [c, d] := by
  intro x hx
  rcases List.mem_cons.1 hx with rfl | hx
  · simp [orc]
  · rcases List.mem_cons.1 hx with rfl | hx
    · simp only [orc]
      split
      · rename_i e; obtain ⟨h1, h2⟩ := h e; rw [h1, h2]
      · simp
    · cases hx
section
variable {P : Program} {base n k : Nat} {e : Env} {h : HS} {Q : QX} {K : List Fr} {id : Nat} {cs : List Rec}
theorem orc_ok : ∀ {cs : List Rec}, (∀ c ∈ cs, Call P base c.f c.args c.h c.r c.h') → CallOK P base (orc cs)
  | [], _, f, args, h, v, h', hs => by cases hs
  | c :: l, hc, f, args, h, v, h', hs => by
    simp only [orc] at hs
    split at hs
    · rename_i he
      obtain ⟨rfl, rfl, rfl⟩ := he
      simp only [Option.some.injEq, Prod.mk.injEq] at hs
      obtain ⟨rfl, rfl⟩ := hs
      have := hc c (List.mem_cons_self ..)
      exact ⟨this.fn, this.run⟩
    · exact orc_ok (fun c hx => hc c (List.mem_cons_of_mem _ hx)) f args h v h' hs
/-- From there to here. -/
def Pre (P : Program) (n : Nat) (l0 : List LOp) (e0 : Env) (h0 : HS) (l : List LOp) (e : Env) (h : HS) (cs : List Rec) : Prop :=
  ∀ ops lo0, lowerL P n ops lo0 = some l0 → ∃ lo, lowerL P n ops lo = some l ∧ ∀ call : FuncId → List SV → SH → Option (SV × SH), (∀ c ∈ cs, call c.f c.args c.h = some (c.r, c.h')) → stepsS P call ops lo0 (toSF n e0) h0.sh = stepsS P call ops lo (toSF n e) h.sh
/-- What is left of a region whose order is drawn. -/
structure MD (P : Program) (base n k : Nat) (l : List LOp) (K : List Fr) (e : Env) (h : HS) (cs : List Rec) (Q : QX) : Prop where
  run : ∀ id l0 e0 h0, Pre P n l0 e0 h0 l e h cs → (∀ c ∈ cs, Call P base c.f c.args c.h c.r c.h') → M P base n k (.code (.regD id l0)) K e0 h0 Q
theorem M.regD {l : List LOp} (hx : MD P base n k l K e h [] Q) : M P base n k (.code (.regD id l)) K e h Q :=
  hx.run id l e h (fun ops lo hl => ⟨lo, hl, fun _ _ => rfl⟩) (fun c hc => by cases hc)
theorem MD.nil (hmix : P.follows .mixedOrders = true) (hf : Fnl cs) (hx : M P base n k (.out .normal) K e h Q) : MD P base n k [] K e h cs Q := ⟨fun id l0 e0 h0 hp hc => ⟨⟨fun code hl φ a w ht hr => by
  obtain ⟨ops, rfl, hl1, ho, hfl⟩ := lowerC_regD hl
  obtain ⟨lo, hlo, hs⟩ := hp ops ops.toList hl1
  obtain rfl := lowerL_nil hlo
  have h1 := hs (orc cs) hf
  simp only [stepsS] at h1
  have h2 : stepsD P true (orc cs) ops (toSF n e0) h0.sh = some (.normal, toSF n e, h.sh) := by
    simp only [stepsD, ho, if_true, hfl, h1]
  refine wp_mono (reg_ok hmix (orc cs) (orc_ok hc) id ops true _ _ _ _ _ h2 φ a w ht hr) fun ex a' w' hp => ?_
  obtain ⟨φ', rfl, p2, p3, p4, p5⟩ := hp
  exact ⟨.normal, e, h, φ', hx.run, rfl, p2, p3, p4, .of p5⟩⟩⟩⟩
theorem Pre.step {l0 : List LOp} {e0 : Env} {h0 : HS} {g : Option (Nat × Bool)} {d : Option Nat} {lk : LK} {l : List LOp} {v : XV} {h' : HS} {cs' : List Rec} (hsub : ∀ c ∈ cs, c ∈ cs') (hp : Pre P n l0 e0 h0 (⟨g, d, lk⟩ :: l) e h cs) (hg : GOK e g)
    (ho : ∀ (call : FuncId → List SV → SH → Option (SV × SH)) (o : Oper), (∀ c ∈ cs', call c.f c.args c.h = some (c.r, c.h')) → Lw P o.op lk → Sim.step P call (toSF n e) h.sh o = some (v.sv, h'.sh)) : Pre P n l0 e0 h0 l (push d v e) h' cs' := fun ops lo0 hl => by
  obtain ⟨lo, hlo, hs⟩ := hp ops lo0 hl
  obtain ⟨o, r, rfl, h1, h2⟩ := lowerL_cons hlo
  obtain ⟨h3, h4, h5, h6⟩ := lowerOp_eq h1
  refine ⟨r, h2, fun call hcall => ?_⟩
  rw [hs call fun c hc => hcall c (hsub c hc)]
  simp only [stepsS, hg.wanted ops o h4, ho call o hcall h5]
  rw [push_sf h3, h6]
theorem MD.op {g : Option (Nat × Bool)} {d : Option Nat} {lk : LK} {l : List LOp} {v : XV} {h' : HS} (hg : GOK e g) (ho : SOp P n lk e h v h') (hx : MD P base n k l K (push d v e) h' cs Q) : MD P base n k (⟨g, d, lk⟩ :: l) K e h cs Q := ⟨fun id l0 e0 h0 hp hc =>
  hx.run id l0 e0 h0 (hp.step (fun c hc => hc) hg fun call o _ hl => ho.run o call hl) hc⟩
theorem MD.out {s : Nat} {g : Bool} {d : Option Nat} {lk : LK} {l : List LOp} (hw : ∀ ops o, lowG ops o.guard = some (some (s, g)) → wantedS ops (toSF n e) o = some false) (hx : MD P base n k l K (push d (.tup []) e) h cs Q) : MD P base n k (⟨some (s, g), d, lk⟩ :: l) K e h cs Q := ⟨fun id l0 e0 h0 hp hc =>
  hx.run id l0 e0 h0 (fun ops lo0 hl => by
    obtain ⟨lo, hlo, hs⟩ := hp ops lo0 hl
    obtain ⟨o, r, rfl, h1, h2⟩ := lowerL_cons hlo
    obtain ⟨h3, h4, h5, h6⟩ := lowerOp_eq h1
    refine ⟨r, h2, fun call hcall => ?_⟩
    rw [hs call hcall]
    simp only [stepsS, hw ops o h4]
    rw [show (SV.tup []) = (XV.tup []).sv by simp [XV.sv, XV.svs], push_sf h3, h6]) hc⟩
theorem MD.use {g : Option (Nat × Bool)} {d : Option Nat} {f : FuncId} {as : List LX} {l : List LOp} {vs args : List XV} {r r2 : XV} {hs hs' : HS} (hg : GOK e g) (C : CallS P base f args hs r hs') (ρ : List (Nat × Nat)) (ha : xevs e as = some vs) (hv : XV.rens (look ρ) args = some vs) (hρ : rhoIn ρ hs h.next = true) (hh : HeapOK (look ρ) h hs.l)
    {l2 : List (Nat × Option XO)} (hr2 : r.ren (gOf ρ hs.next h.next) = some r2) (hl2 : frameL (gOf ρ hs.next h.next) hs'.l = some l2)
    (hx : MD P base n k l K (push d r2 e) ⟨appL l2 (appL (drops ρ) h.l), h.next + (hs'.next - hs.next)⟩ (⟨f, vs.map XV.sv, h.sh, r2.sv, HS.sh ⟨appL l2 (appL (drops ρ) h.l), h.next + (hs'.next - hs.next)⟩⟩ :: cs) Q) :
    MD P base n k (⟨g, d, .call f as⟩ :: l) K e h cs Q := ⟨fun id l0 e0 h0 hp hc =>
  hx.run id l0 e0 h0 (hp.step (fun c hc => List.mem_cons_of_mem _ hc) hg fun call o hcall hl => step_call ha (hcall _ (List.mem_cons_self ..)) o hl) (fun c hx => by
    rcases List.mem_cons.1 hx with rfl | hx
    · exact C.use ρ hρ hv hh hr2 hl2
    · exact hc c hx)⟩
theorem MD.use0 {g : Option (Nat × Bool)} {d : Option Nat} {f : FuncId} {as : List LX} {l : List LOp} {vs args : List XV} {r : XV} (hg : GOK e g) (C : CallS P base f args ⟨[], 0⟩ r ⟨[], 0⟩) (ha : xevs e as = some vs) (hv : XV.rens (look []) args = some vs) (hr : r.ren (gOf [] 0 h.next) = some r)
    (hx : MD P base n k l K (push d r e) h (⟨f, vs.map XV.sv, h.sh, r.sv, h.sh⟩ :: cs) Q) : MD P base n k (⟨g, d, .call f as⟩ :: l) K e h cs Q :=
  MD.use hg C [] ha hv rfl trivial hr rfl hx
/-- As far as no question is open. -/
def goD : Nat → List LOp → Env → HS → St
  | 0, l, e, h => .st (.ops l) [] e h
  | _ + 1, [], e, h => .st (.ops []) [] e h
  | m + 1, ⟨none, some d, k⟩ :: l, e, h => match stepX k e h with
    | some (v, h') => goD m l ((d, v) :: e) h'
    | none => .st (.ops (⟨none, some d, k⟩ :: l)) [] e h
  | m + 1, ⟨none, none, k⟩ :: l, e, h => match stepX k e h with
    | some (_, h') => goD m l e h'
    | none => .st (.ops (⟨none, none, k⟩ :: l)) [] e h
  | m + 1, ⟨some (s, w), d, k⟩ :: l, e, h => match look e s, w with
    | some (.c (.p (.bool true))), true => match stepX k e h with
      | some (v, h') => goD m l (pushS d v e) h'
      | none => .st (.ops (⟨some (s, w), d, k⟩ :: l)) [] e h
    | some (.c (.p (.bool false))), false => match stepX k e h with
      | some (v, h') => goD m l (pushS d v e) h'
      | none => .st (.ops (⟨some (s, w), d, k⟩ :: l)) [] e h
    | some (.c (.p (.bool true))), false => goD m l (pushS d (.tup []) e) h
    | some (.c (.p (.bool false))), true => goD m l (pushS d (.tup []) e) h
    | some (.tup _), _ => goD m l (pushS d (.tup []) e) h
    | _, _ => .st (.ops (⟨some (s, w), d, k⟩ :: l)) [] e h
theorem goD_ok : ∀ (m : Nat) {l l' : List LOp} {e e' : Env} {h h' : HS}, goD m l e h = .st (.ops l') [] e' h' → MD P base n k l' K e' h' cs Q → MD P base n k l K e h cs Q
  | 0, l, l', e, e', h, h', hr, hx => by
    simp only [goD, St.st.injEq, Fo.ops.injEq] at hr
    obtain ⟨rfl, -, rfl, rfl⟩ := hr
    exact hx
  | m + 1, l, l', e, e', h, h', hr, hx => by
    have stop : St.st (.ops l) [] e h = .st (.ops l') [] e' h' → MD P base n k l K e h cs Q := fun hr => by
      simp only [St.st.injEq, Fo.ops.injEq] at hr
      obtain ⟨rfl, -, rfl, rfl⟩ := hr
      exact hx
    unfold goD at hr
    split at hr
    · rename_i heq; cases heq
    · exact stop hr
    · rename_i heq
      cases heq
      split at hr
      · rename_i hs
        exact .op trivial (stepX_ok hs) (goD_ok _ hr hx)
      · exact stop hr
    · rename_i heq
      cases heq
      split at hr
      · rename_i hs
        exact .op trivial (stepX_ok hs) (goD_ok _ hr hx)
      · exact stop hr
    · rename_i heq
      cases heq
      split at hr
      · split at hr
        · rename_i hl _ _ _ hs
          exact .op hl (stepX_ok hs) (goD_ok _ hr hx)
        · exact stop hr
      · split at hr
        · rename_i hl _ _ _ hs
          exact .op hl (stepX_ok hs) (goD_ok _ hr hx)
        · exact stop hr
      · rename_i hl
        exact .out (fun ops o hg' => by rw [wanted_of hg' hl]; rfl) (goD_ok _ hr hx)
      · rename_i hl
        exact .out (fun ops o hg' => by rw [wanted_of hg' hl]; rfl) (goD_ok _ hr hx)
      · rename_i hl
        exact .out (fun ops o hg' => by rw [wanted_of hg' hl]; simp [XV.sv]) (goD_ok _ hr hx)
      · exact stop hr
theorem MD.go {l l' : List LOp} {e' : Env} {h' : HS} (hr : goD 1000 l e h = .st (.ops l') [] e' h') (hx : MD P base n k l' K e' h' cs Q) : MD P base n k l K e h cs Q := goD_ok 1000 hr hx
/-- A contract without memory is that of a closed reckoning. -/
theorem CallS.closed {m : Nat} {f : FuncId} (hmix : P.follows .mixedOrders = true) (hng : ∀ (f : FuncId) (fn : Func), P.funcs[f]? = some fn → (fn.name == "runtime.NumGoroutine") = false) (hc : isTrue (callF P m f [] noMem) = true) : CallS P base f [] ⟨[], 0⟩ (.c (.p (.bool true))) ⟨[], 0⟩ := by
  cases hq : callF P m f [] noMem with
  | none => rw [hq] at hc; cases hc
  | some r =>
    obtain ⟨v, h'⟩ := r
    rw [hq] at hc
    have hv : v = .c (.bool true) := by
      unfold Sim.isTrue at hc
      split at hc
      · rename_i e; cases e; rfl
      · cases hc
    subst hv
    have := calls_sound (base := base) (n := m) hmix hng f [] noMem _ h' hq
    refine ⟨this.1, fun φ args' w ha hr => ?_⟩
    cases args' with
    | cons _ _ => exact ha.elim
    | nil =>
      refine Calls.mono (this.2 φ [] w trivial hr) fun en w' hp => ?_
      obtain ⟨v', φ', rfl, h1, h2, h3⟩ := hp
      have hno : ∀ b q, (HS.sh ⟨[], 0⟩).get b = some q → False := fun b q hb => by rw [HS.get_sh] at hb; cases hb
      refine ⟨v', ⟨fun _ => none, φ'.fm⟩, rfl, h1, ⟨(fun b L hb => by cases hb), h2.lo, (fun b q hb => (hno b q hb).elim), (fun m o hm => ⟨(h2.froz m o hm).1, fun b L ⟨q, hb, _⟩ => (hno b q hb).elim⟩), (fun b b' q L L' ⟨q1, hb, _⟩ => (hno b q1 hb).elim)⟩, ⟨fun b L hb => absurd hb (Nat.not_lt_zero _), fun m o hm => h3.le.fm m o hm, h3.os, h3.tape, h3.output, h3.size, fun q hq hn => h3.keep q hq fun b L ⟨q1, hb, _⟩ => (hno b q1 hb).elim, fun b L ⟨q, hb, _⟩ => (hno b q hb).elim, fun b q L hb => (hno b q hb).elim, fun m o hm => ?_⟩⟩
      rcases h3.fm m o hm with h4 | h4 | ⟨b, L, ⟨q, hb, _⟩, _⟩
      · exact .inl h4
      · exact .inr (.inl h4)
      · exact (hno b q hb).elim
/-! Regions in which something that reads stands in no order with what changes memory. -/
structure TX where
  k : LK
  e : Env
  h : HS
  v : XV
  w : Bool
def TX.tr (n : Nat) (x : TX) : Tr := ⟨toSF n x.e, x.h.sh, x.v.sv, x.w⟩
def hAt : List TX → HS → Nat → HS
  | [], h, _ => h
  | x :: _, _, 0 => x.h
  | _ :: l, h, k + 1 => hAt l h k
def at? : List TX → Nat → Option TX
  | [], _ => none
  | x :: _, 0 => some x
  | _ :: l, k + 1 => at? l k
theorem at?_eq : ∀ (l : List TX) (i : Nat), at? l i = l[i]?
  | [], i => by simp [at?]
  | x :: l, 0 => rfl
  | x :: l, i + 1 => by simp [at?, at?_eq l i]
theorem hAt_eq {n : Nat} : ∀ (l : List TX) (h : HS) (k : Nat), heapAt (l.map (TX.tr n)) h.sh k = (hAt l h k).sh
  | [], h, k => by simp [heapAt, hAt]
  | x :: l, h, 0 => rfl
  | x :: l, h, k + 1 => by
    have := hAt_eq (n := n) l h k
    simpa [heapAt, hAt] using this
def StK (P : Program) (n : Nat) (l : List TX) (h : HS) (x : TX) : List Nat → Prop
  | [] => True
  | k :: r => SOp P n x.k x.e (hAt l h k) x.v (hAt l h k) ∧ StK P n l h x r
def StX (P : Program) (n : Nat) (l : List TX) (h : HS) : List (Nat × List Nat) → Prop
  | [] => True
  | (i, ks) :: r => (match at? l i with
    | some x => bif x.w then StK P n l h x ks else True
    | none => True) ∧ StX P n l h r
theorem StK.get {l : List TX} {h : HS} {x : TX} : ∀ {ks : List Nat}, StK P n l h x ks → ∀ k ∈ ks, SOp P n x.k x.e (hAt l h k) x.v (hAt l h k)
  | [], _, k, hk => by cases hk
  | k0 :: r, hs, k, hk => by
    rcases List.mem_cons.1 hk with rfl | hk
    · exact hs.1
    · exact StK.get hs.2 k hk
theorem StX.get {l : List TX} {h : HS} : ∀ {fl : List (Nat × List Nat)}, StX P n l h fl → ∀ i ks, (i, ks) ∈ fl → ∀ x, l[i]? = some x → x.w = true → ∀ k ∈ ks, SOp P n x.k x.e (hAt l h k) x.v (hAt l h k)
  | [], _, i, ks, hm, _, _, _, _, _ => by cases hm
  | (i0, ks0) :: r, hs, i, ks, hm, x, hx, hw, k, hk => by
    rcases List.mem_cons.1 hm with e | hm
    · obtain ⟨rfl, rfl⟩ := Prod.mk.inj e
      have h1 := hs.1
      rw [at?_eq, hx] at h1
      simp only [hw, cond_true] at h1
      exact h1.get k hk
    · exact StX.get hs.2 i ks hm x hx hw k hk
/-- From there to here, each step kept. -/
def PreF (P : Program) (n : Nat) (l0 : List LOp) (e0 : Env) (h0 : HS) (l : List LOp) (e : Env) (h : HS) (cs : List Rec) (tr : List TX) : Prop :=
  ∀ ops lo0, lowerL P n ops lo0 = some l0 → ∃ los lo, lo0 = los ++ lo ∧ lowerL P n ops lo = some l ∧ los.length = tr.length ∧ (∀ (i : Nat) (o : Oper) (x : TX), los[i]? = some o → tr[i]? = some x → x.w = true → Lw P o.op x.k) ∧
    ∀ call : FuncId → List SV → SH → Option (SV × SH), (∀ c ∈ cs, call c.f c.args c.h = some (c.r, c.h')) → traceS P call ops lo0 (toSF n e0) h0.sh = match traceS P call ops lo (toSF n e) h.sh with
      | some (r, t', h') => some (tr.map (TX.tr n) ++ r, t', h')
      | none => none
structure MG (P : Program) (base n k : Nat) (fl : List (Nat × List Nat)) (l : List LOp) (K : List Fr) (e : Env) (h : HS) (cs : List Rec) (tr : List TX) (Q : QX) : Prop where
  run : ∀ id l0 e0 h0, PreF P n l0 e0 h0 l e h cs tr → (∀ c ∈ cs, Call P base c.f c.args c.h c.r c.h') → M P base n k (.code (.regF id l0 fl)) K e0 h0 Q
variable {fl : List (Nat × List Nat)} {tr : List TX}
theorem M.regF0 {l : List LOp} (hx : MG P base n k fl l K e h [] [] Q) : M P base n k (.code (.regF id l fl)) K e h Q :=
  hx.run id l e h (fun ops lo hl => ⟨[], lo, rfl, hl, rfl, fun i o x h => by simp at h, fun call _ => by
    simp only [List.map_nil, List.nil_append]
    split
    · rename_i h; exact h
    · rename_i h; exact h⟩) (fun c hc => by cases hc)
theorem steady_ok (hmix : P.follows .mixedOrders = true) {call : FuncId → List SV → SH → Option (SV × SH)} (hc : CallOK P base call) {id : Nat} {ops : Array Oper} (hord : inOrder P ops (masks ops.toList []) ops.toList 0 [] = true) {l : List Tr} {t t1 : SF} {h h1 : SH} (htr : traceS P call ops ops.toList t h = some (l, t1, h1))
    (hsd : ∀ i ks, (i, ks) ∈ floats P ops → ∀ o, ops[i]? = some o → ∀ x, l[i]? = some x → x.w = true → ∀ k ∈ ks, ∃ h2, Sim.step P (fun _ _ _ => none) x.t (heapAt l h1 k) o = some (x.v, h2)) {φ : Ph} {a : Act} {w : World} (ht : TR φ t a) (hr : HR base φ h w) : (Code.region id ops true).wp P (Post base φ h w a.defers .normal t1 h1) a w := by
  have hO := ord_of hord
  obtain ⟨T, H, V, W, e1, e2, e3, e4, e5, e6⟩ := trace_text ops ops.toList _ _ _ _ _ htr
  simp only [Array.length_toList] at e3 e4 e5
  have e6' : ∀ i o, ops[i]? = some o → _ := fun i o ho => e6 i o (by simpa using ho)
  have x : Text P call ops T H V W := ⟨fun i o ho => (e6' i o ho).1, fun i o ho => (e6' i o ho).2.1, fun i o ho => (e6' i o ho).2.2.1, fun i o ho => (e6' i o ho).2.2.2.1⟩
  have hst : Steady P ops T H V W := fun i ks hm o ho hw k hk => by
    have hl := (e6' i o ho).2.2.2.2
    obtain ⟨h2, hs⟩ := hsd i ks hm o ho _ hl hw k hk
    have hat : heapAt l h1 k = H k := by
      unfold heapAt
      have hkn := floats_le (i, ks) hm k hk
      by_cases hkl : k < ops.size
      · rw [(e6' k _ (Array.getElem?_eq_getElem hkl)).2.2.2.2]
      · rw [List.getElem?_eq_none (by omega)]
        have : k = ops.size := by omega
        rw [this, e4]
    rw [hat] at hs
    exact ⟨h2, hs⟩
  refine wp_region_any hmix ?_
  have hf : ∀ i, (Array.replicate ops.size false).getD i false = false := fun i => by
    rw [Array.getD_eq_getD_getElem?, Array.getElem?_replicate]
    split <;> rfl
  have hw1 : ({ w with drawn := w.drawn + 1 } : World).heap = w.heap := rfl
  refine any_sound hc x hO hst ops.size _ a _ φ 0 (by simp) (by simp) (fun j q hq hj => absurd ((hf j).symm.trans hj) (by simp)) (Nat.zero_le _) (fun e q hq hqc => by rw [hf]; simp) (by rw [e2]; exact hr.same hw1) ?_ fun a2 w2 φ2 g1 g2 g3 g4 => ?_
  · have hcur : ∀ m, cur ops (T 0) V (fun i => (Array.replicate ops.size false).getD i false) m = T 0 := by
      intro m
      induction m with
      | zero => rfl
      | succ m ih => simp only [cur]; rw [if_neg (by rw [hf]; simp), ih]
    rw [hcur, e1]
    exact ht
  · rw [e2, e4] at g4
    refine ⟨φ2, rfl, by rw [← e3]; exact g1, g2, by rw [← e4]; exact g3, ?_⟩
    exact (Mv.same (w := w) (w' := { w with drawn := w.drawn + 1 }) rfl rfl rfl rfl).trans g4
theorem MG.nil (hmix : P.follows .mixedOrders = true) (hf : Fnl cs) (hs : StX P n tr h fl) (hx : M P base n k (.out .normal) K e h Q) : MG P base n k fl [] K e h cs tr Q := ⟨fun id l0 e0 h0 hp hc => ⟨⟨fun code hl φ a w ht hr => by
  obtain ⟨ops, rfl, hl1, ho, hfl⟩ := lowerC_regF hl
  obtain ⟨los, lo, e1, hlo, e2, e3, e4⟩ := hp ops ops.toList hl1
  obtain rfl := lowerL_nil hlo
  have h1 := e4 (orc cs) hf
  simp only [traceS, List.append_nil] at h1
  refine wp_mono (steady_ok hmix (orc_ok hc) ho h1 (fun i ks hm o hoo x hx hw k hk => ?_) ht hr) fun ex a' w' hp => ?_
  · rw [hfl] at hm
    rw [List.getElem?_map, Option.map_eq_some_iff] at hx
    obtain ⟨y, hy, rfl⟩ := hx
    have h2 := hs.get i ks hm y hy hw k hk
    rw [List.append_nil] at e1
    have h3 : los[i]? = some o := by rw [← e1]; simpa using hoo
    rw [hAt_eq]
    exact ⟨_, h2.run o _ (e3 i o y h3 hy hw)⟩
  · obtain ⟨φ', rfl, p2, p3, p4, p5⟩ := hp
    exact ⟨.normal, e, h, φ', hx.run, rfl, p2, p3, p4, .of p5⟩⟩⟩⟩
theorem PreF.step {l0 : List LOp} {e0 : Env} {h0 : HS} {g : Option (Nat × Bool)} {d : Option Nat} {lk : LK} {l : List LOp} {v : XV} {h' : HS} {cs' : List Rec} (hsub : ∀ c ∈ cs, c ∈ cs') (hp : PreF P n l0 e0 h0 (⟨g, d, lk⟩ :: l) e h cs tr) (hg : GOK e g)
    (ho : ∀ (call : FuncId → List SV → SH → Option (SV × SH)) (o : Oper), (∀ c ∈ cs', call c.f c.args c.h = some (c.r, c.h')) → Lw P o.op lk → Sim.step P call (toSF n e) h.sh o = some (v.sv, h'.sh)) : PreF P n l0 e0 h0 l (push d v e) h' cs' (tr ++ [⟨lk, e, h, v, true⟩]) := fun ops lo0 hl => by
  obtain ⟨los, lo, rfl, hlo, e2, e3, e4⟩ := hp ops lo0 hl
  obtain ⟨o, r, rfl, h1, h2⟩ := lowerL_cons hlo
  obtain ⟨h3, h4, h5, h6⟩ := lowerOp_eq h1
  refine ⟨los ++ [o], r, by simp, h2, by simp [e2], fun i q x hq hx hw => ?_, fun call hcall => ?_⟩
  · by_cases hi : i < tr.length
    · rw [List.getElem?_append_left (by omega)] at hq
      rw [List.getElem?_append_left hi] at hx
      exact e3 i q x hq hx hw
    · have hil : i = tr.length := by
        have := (List.getElem?_eq_some_iff.1 hx).1
        simp at this; omega
      subst hil
      rw [← e2, List.getElem?_append_right (Nat.le_refl _)] at hq
      rw [List.getElem?_append_right (Nat.le_refl _)] at hx
      simp at hq hx
      subst hq hx
      exact h5
  · rw [e4 call fun c hc => hcall c (hsub c hc)]
    simp only [traceS, hg.wanted ops o h4, ho call o hcall h5]
    rw [push_sf h3, h6]
    cases traceS P call ops r (toSF n (push d v e)) h'.sh with
    | none => rfl
    | some q => obtain ⟨q1, q2, q3⟩ := q; simp [TX.tr]
theorem MG.op {g : Option (Nat × Bool)} {d : Option Nat} {lk : LK} {l : List LOp} {v : XV} {h' : HS} (hg : GOK e g) (ho : SOp P n lk e h v h') (hx : MG P base n k fl l K (push d v e) h' cs (tr ++ [⟨lk, e, h, v, true⟩]) Q) : MG P base n k fl (⟨g, d, lk⟩ :: l) K e h cs tr Q := ⟨fun id l0 e0 h0 hp hc =>
  hx.run id l0 e0 h0 (hp.step (fun c hc => hc) hg fun call o _ hl => ho.run o call hl) hc⟩
theorem MG.out {s : Nat} {g : Bool} {d : Option Nat} {lk : LK} {l : List LOp} (hw : ∀ ops o, lowG ops o.guard = some (some (s, g)) → wantedS ops (toSF n e) o = some false) (hx : MG P base n k fl l K (push d (.tup []) e) h cs (tr ++ [⟨lk, e, h, .tup [], false⟩]) Q) : MG P base n k fl (⟨some (s, g), d, lk⟩ :: l) K e h cs tr Q := ⟨fun id l0 e0 h0 hp hc =>
  hx.run id l0 e0 h0 (fun ops lo0 hl => by
    obtain ⟨los, lo, rfl, hlo, e2, e3, e4⟩ := hp ops lo0 hl
    obtain ⟨o, r, rfl, h1, h2⟩ := lowerL_cons hlo
    obtain ⟨h3, h4, h5, h6⟩ := lowerOp_eq h1
    refine ⟨los ++ [o], r, by simp, h2, by simp [e2], fun i q x hq hx hw' => ?_, fun call hcall => ?_⟩
    · by_cases hi : i < tr.length
      · rw [List.getElem?_append_left (by omega)] at hq
        rw [List.getElem?_append_left hi] at hx
        exact e3 i q x hq hx hw'
      · have hil : i = tr.length := by
          have := (List.getElem?_eq_some_iff.1 hx).1
          simp at this; omega
        subst hil
        rw [List.getElem?_append_right (Nat.le_refl _)] at hx
        simp at hx
        subst hx
        cases hw'
    · rw [e4 call hcall]
      simp only [traceS, hw ops o h4]
      have e5 : (toSF n e).put o.dst (.tup []) = toSF n (push d (.tup []) e) := by
        rw [show (SV.tup []) = (XV.tup []).sv by simp [XV.sv, XV.svs], push_sf h3, h6]
      rw [e5]
      cases traceS P call ops r (toSF n (push d (.tup []) e)) h.sh with
      | none => rfl
      | some q => obtain ⟨q1, q2, q3⟩ := q; simp [TX.tr, XV.sv, XV.svs]) hc⟩
theorem MG.use {g : Option (Nat × Bool)} {d : Option Nat} {f : FuncId} {as : List LX} {l : List LOp} {vs args : List XV} {r r2 : XV} {hs hs' : HS} (hg : GOK e g) (C : CallS P base f args hs r hs') (ρ : List (Nat × Nat)) (ha : xevs e as = some vs) (hv : XV.rens (look ρ) args = some vs) (hρ : rhoIn ρ hs h.next = true) (hh : HeapOK (look ρ) h hs.l)
    {l2 : List (Nat × Option XO)} (hr2 : r.ren (gOf ρ hs.next h.next) = some r2) (hl2 : frameL (gOf ρ hs.next h.next) hs'.l = some l2)
    (hx : MG P base n k fl l K (push d r2 e) ⟨appL l2 (appL (drops ρ) h.l), h.next + (hs'.next - hs.next)⟩ (⟨f, vs.map XV.sv, h.sh, r2.sv, HS.sh ⟨appL l2 (appL (drops ρ) h.l), h.next + (hs'.next - hs.next)⟩⟩ :: cs) (tr ++ [⟨.call f as, e, h, r2, true⟩]) Q) :
    MG P base n k fl (⟨g, d, .call f as⟩ :: l) K e h cs tr Q := ⟨fun id l0 e0 h0 hp hc =>
  hx.run id l0 e0 h0 (hp.step (fun c hc => List.mem_cons_of_mem _ hc) hg fun call o hcall hl => step_call ha (hcall _ (List.mem_cons_self ..)) o hl) (fun c hx => by
    rcases List.mem_cons.1 hx with rfl | hx
    · exact C.use ρ hρ hv hh hr2 hl2
    · exact hc c hx)⟩
theorem MG.use0 {g : Option (Nat × Bool)} {d : Option Nat} {f : FuncId} {as : List LX} {l : List LOp} {vs args : List XV} {r : XV} (hg : GOK e g) (C : CallS P base f args ⟨[], 0⟩ r ⟨[], 0⟩) (ha : xevs e as = some vs) (hv : XV.rens (look []) args = some vs) (hr : r.ren (gOf [] 0 h.next) = some r)
    (hx : MG P base n k fl l K (push d r e) h (⟨f, vs.map XV.sv, h.sh, r.sv, h.sh⟩ :: cs) (tr ++ [⟨.call f as, e, h, r, true⟩]) Q) : MG P base n k fl (⟨g, d, .call f as⟩ :: l) K e h cs tr Q :=
  MG.use hg C [] ha hv rfl trivial hr rfl hx
def revA : List TX → List TX → List TX
  | [], r => r
  | x :: l, r => revA l (x :: r)
theorem revA_eq : ∀ (l r : List TX), revA l r = l.reverse ++ r
  | [], r => rfl
  | x :: l, r => by rw [revA, revA_eq l]; simp
/-- The same, the trace from its end. -/
structure MF (P : Program) (base n k : Nat) (fl : List (Nat × List Nat)) (l : List LOp) (K : List Fr) (e : Env) (h : HS) (cs : List Rec) (tr : List TX) (Q : QX) : Prop where
  run : MG P base n k fl l K e h cs tr.reverse Q
theorem M.regF {l : List LOp} (hx : MF P base n k fl l K e h [] [] Q) : M P base n k (.code (.regF id l fl)) K e h Q := M.regF0 hx.run
theorem MF.nil {tr2 : List TX} (hmix : P.follows .mixedOrders = true) (hf : Fnl cs) (hrev : revA tr [] = tr2) (hs : StX P n tr2 h fl) (hx : M P base n k (.out .normal) K e h Q) : MF P base n k fl [] K e h cs tr Q := ⟨MG.nil hmix hf (by rw [revA_eq, List.append_nil] at hrev; rw [hrev]; exact hs) hx⟩
theorem MF.op {g : Option (Nat × Bool)} {d : Option Nat} {lk : LK} {l : List LOp} {v : XV} {h' : HS} (hg : GOK e g) (ho : SOp P n lk e h v h') (hx : MF P base n k fl l K (push d v e) h' cs (⟨lk, e, h, v, true⟩ :: tr) Q) : MF P base n k fl (⟨g, d, lk⟩ :: l) K e h cs tr Q := ⟨MG.op hg ho (by have := hx.run; rwa [List.reverse_cons] at this)⟩
theorem MF.out {s : Nat} {g : Bool} {d : Option Nat} {lk : LK} {l : List LOp} (hw : ∀ ops o, lowG ops o.guard = some (some (s, g)) → wantedS ops (toSF n e) o = some false) (hx : MF P base n k fl l K (push d (.tup []) e) h cs (⟨lk, e, h, .tup [], false⟩ :: tr) Q) : MF P base n k fl (⟨some (s, g), d, lk⟩ :: l) K e h cs tr Q := ⟨MG.out hw (by have := hx.run; rwa [List.reverse_cons] at this)⟩
theorem MF.use {g : Option (Nat × Bool)} {d : Option Nat} {f : FuncId} {as : List LX} {l : List LOp} {vs args : List XV} {r r2 : XV} {hs hs' : HS} (hg : GOK e g) (C : CallS P base f args hs r hs') (ρ : List (Nat × Nat)) (ha : xevs e as = some vs) (hv : XV.rens (look ρ) args = some vs) (hρ : rhoIn ρ hs h.next = true) (hh : HeapOK (look ρ) h hs.l)
    {l2 : List (Nat × Option XO)} (hr2 : r.ren (gOf ρ hs.next h.next) = some r2) (hl2 : frameL (gOf ρ hs.next h.next) hs'.l = some l2)
    (hx : MF P base n k fl l K (push d r2 e) ⟨appL l2 (appL (drops ρ) h.l), h.next + (hs'.next - hs.next)⟩ (⟨f, vs.map XV.sv, h.sh, r2.sv, HS.sh ⟨appL l2 (appL (drops ρ) h.l), h.next + (hs'.next - hs.next)⟩⟩ :: cs) (⟨.call f as, e, h, r2, true⟩ :: tr) Q) :
    MF P base n k fl (⟨g, d, .call f as⟩ :: l) K e h cs tr Q := ⟨MG.use hg C ρ ha hv hρ hh hr2 hl2 (by have := hx.run; rwa [List.reverse_cons] at this)⟩
theorem MF.use0 {g : Option (Nat × Bool)} {d : Option Nat} {f : FuncId} {as : List LX} {l : List LOp} {vs args : List XV} {r : XV} (hg : GOK e g) (C : CallS P base f args ⟨[], 0⟩ r ⟨[], 0⟩) (ha : xevs e as = some vs) (hv : XV.rens (look []) args = some vs) (hr : r.ren (gOf [] 0 h.next) = some r)
    (hx : MF P base n k fl l K (push d r e) h (⟨f, vs.map XV.sv, h.sh, r.sv, h.sh⟩ :: cs) (⟨.call f as, e, h, r, true⟩ :: tr) Q) : MF P base n k fl (⟨g, d, .call f as⟩ :: l) K e h cs tr Q :=
  ⟨MG.use0 hg C ha hv hr (by have := hx.run; rwa [List.reverse_cons] at this)⟩
inductive StF where
  | st (l : List LOp) (e : Env) (h : HS) (tr : List TX)
  | no
def goF : Nat → List LOp → Env → HS → List TX → StF
  | 0, l, e, h, tr => .st l e h tr
  | _ + 1, [], e, h, tr => .st [] e h tr
  | m + 1, ⟨none, d, k⟩ :: l, e, h, tr => match stepX k e h with
    | some (v, h') => goF m l (pushS d v e) h' (⟨k, e, h, v, true⟩ :: tr)
    | none => .st (⟨none, d, k⟩ :: l) e h tr
  | m + 1, ⟨some (s, w), d, k⟩ :: l, e, h, tr => match look e s, w with
    | some (.c (.p (.bool true))), true => match stepX k e h with
      | some (v, h') => goF m l (pushS d v e) h' (⟨k, e, h, v, true⟩ :: tr)
      | none => .st (⟨some (s, w), d, k⟩ :: l) e h tr
    | some (.c (.p (.bool false))), false => match stepX k e h with
      | some (v, h') => goF m l (pushS d v e) h' (⟨k, e, h, v, true⟩ :: tr)
      | none => .st (⟨some (s, w), d, k⟩ :: l) e h tr
    | some (.c (.p (.bool true))), false => goF m l (pushS d (.tup []) e) h (⟨k, e, h, .tup [], false⟩ :: tr)
    | some (.c (.p (.bool false))), true => goF m l (pushS d (.tup []) e) h (⟨k, e, h, .tup [], false⟩ :: tr)
    | some (.tup _), _ => goF m l (pushS d (.tup []) e) h (⟨k, e, h, .tup [], false⟩ :: tr)
    | _, _ => .st (⟨some (s, w), d, k⟩ :: l) e h tr
theorem goF_ok : ∀ (m : Nat) {l l' : List LOp} {e e' : Env} {h h' : HS} {tr tr' : List TX}, goF m l e h tr = .st l' e' h' tr' → MF P base n k fl l' K e' h' cs tr' Q → MF P base n k fl l K e h cs tr Q
  | 0, l, l', e, e', h, h', tr, tr', hr, hx => by
    simp only [goF, StF.st.injEq] at hr
    obtain ⟨rfl, rfl, rfl, rfl⟩ := hr
    exact hx
  | m + 1, l, l', e, e', h, h', tr, tr', hr, hx => by
    have stop : StF.st l e h tr = .st l' e' h' tr' → MF P base n k fl l K e h cs tr Q := fun hr => by
      simp only [StF.st.injEq] at hr
      obtain ⟨rfl, rfl, rfl, rfl⟩ := hr
      exact hx
    unfold goF at hr
    split at hr
    · rename_i heq; cases heq
    · exact stop hr
    · rename_i heq
      cases heq
      split at hr
      · rename_i hs
        exact .op trivial (stepX_ok hs) (goF_ok _ hr hx)
      · exact stop hr
    · rename_i heq
      cases heq
      split at hr
      · split at hr
        · rename_i hl _ _ _ hs
          exact .op hl (stepX_ok hs) (goF_ok _ hr hx)
        · exact stop hr
      · split at hr
        · rename_i hl _ _ _ hs
          exact .op hl (stepX_ok hs) (goF_ok _ hr hx)
        · exact stop hr
      · rename_i hl
        exact .out (fun ops o hg' => by rw [wanted_of hg' hl]; rfl) (goF_ok _ hr hx)
      · rename_i hl
        exact .out (fun ops o hg' => by rw [wanted_of hg' hl]; rfl) (goF_ok _ hr hx)
      · rename_i hl
        exact .out (fun ops o hg' => by rw [wanted_of hg' hl]; simp [XV.sv]) (goF_ok _ hr hx)
      · exact stop hr
theorem MF.go {l l' : List LOp} {e' : Env} {h' : HS} {tr' : List TX} (hr : goF 1000 l e h tr = .st l' e' h' tr') (hx : MF P base n k fl l' K e' h' cs tr' Q) : MF P base n k fl l K e h cs tr Q := goF_ok 1000 hr hx
end
end Go.Proofs.Ytgaaffanoegbhaa.Sym
