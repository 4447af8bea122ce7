/- Rules as they are used: what is run, what waits. No program in sight. -/
import Derived.Test.YtgaaffanoegbhaaSymP
namespace Go.Proofs.Ytgaaffanoegbhaa.Sym
open Go Go.RowKit Go.Proofs.Ytgaaffanoegbhaa.Sim
set_option linter.unusedSimpArgs false
set_option linter.unusedVariables false
/-- The bodies of a code's loops, outer ones first. -/
def LC.loops : LC → List LC
  | .seq a b => a.loops ++ b.loops
  | .cond _ a b => a.loops ++ b.loops
  | .block _ a => a.loops
  | .loop a => a :: a.loops
  | _ => []
def LC.lp (i : Nat) (c : LC) : LC := c.loops.getD i .skip
/-- A slice that is appended to from nil on. -/
def accV (b s : Nat) (l : List PC) : XV := .c (.acc b s l)
def accO (s : Nat) : List PC → Option XO
  | [] => none
  | x :: l => some (.els s (x :: l))
def minI (a b : Int) : Int := if b < a then b else a
def maxI (a b : Int) : Int := if a < b then b else a
def easyB : BinOp → XC → Bool
  | .quo, _ => false
  | .rem, _ => false
  | .shl, _ => false
  | .shr, _ => false
  | .add, .p (.str _) => false
  | _, _ => true
/-- What an operation does, where no question is open. -/
def stepX (k : LK) (e : Env) (h : HS) : Option (XV × HS) :=
  match k with
  | .mv x => match xev e x with
    | some v => some (v, h)
    | none => none
  | .pick c a b => match xev e c with
    | some (.c (.p (.bool true))) => match xev e a with
      | some v => some (v, h)
      | none => none
    | some (.c (.p (.bool false))) => match xev e b with
      | some v => some (v, h)
      | none => none
    | _ => none
  | .new z => some (.c (.ptr h.next 0), h.new z)
  | .box x => match xev e x with
    | some v => match v.cells with
      | some l => some (.c (.ptr h.next 0), h.new l)
      | none => none
    | none => none
  | .bld z ps => match bldX e z ps with
    | some r => some (.agg r, h)
    | none => none
  | .bldS s n _ ps => match bldSX e s 0 ps with
    | some el => match Nat.beq el.length n with
      | true => some (.c (.sl h.next 0 n s (some n)), h.newO (.els s el))
      | false => none
    | none => none
  | .ld1 x => match xev e x with
    | some (.c (.ptr b o)) => match h.get b with
      | some (.row l _) => match getN l o 1 with
        | some [y] => some (.c y, h)
        | _ => none
      | _ => none
    | _ => none
  | .ldn m x => match xev e x with
    | some (.c (.ptr b o)) => match h.get b with
      | some (.row l _) => match getN l o m with
        | some r => some (.agg r, h)
        | none => none
      | _ => none
    | _ => none
  | .st s x y => match xev e x, xev e y with
    | some (.c (.ptr b o)), some v => match h.get b, v.cells with
      | some (.row l true), some cs => match Nat.beq cs.length s, setN l o cs with
        | true, some l' => some (.tup [], h.put b (some (.row l' true)))
        | _, _ => none
      | _, _ => none
    | _, _ => none
  | .nilck x => match xev e x with
    | some (.c (.ptr b o)) => some (.c (.ptr b o), h)
    | some (.c (.p (.tp l o))) => some (.c (.p (.tp l o)), h)
    | some (.c (.p (.te s el i o))) => some (.c (.p (.te s el i o)), h)
    | _ => none
  | .bin k op x y => match xev e x, xev e y with
    | some (.c u), some (.c v) => match easyB op u with
      | true => match binX k op u v with
        | some r => some (.c (.p r), h)
        | none => none
      | false => none
    | _, _ => none
  | .un op x => match xev e x with
    | some (.c u) => match unX op u with
      | some r => some (.c (.p r), h)
      | none => none
    | _ => none
  | .cvI k x => match xev e x with
    | some (.c (.p (.int _ m))) => some (.c (.p (.int k (k.wrap m))), h)
    | _ => none
  | .cvId x => match xev e x with
    | some (.c (.p (.str l))) => some (.c (.p (.str l)), h)
    | _ => none
  | .fa off x => match xev e x with
    | some (.c (.ptr b o)) => some (.c (.ptr b (o + off)), h)
    | some (.c (.p (.tp l o))) => some (.c (.p (.tp l (o + off))), h)
    | some (.c (.p (.te s el i o))) => some (.c (.p (.te s el i (o + off))), h)
    | _ => none
  | .fld1 off x => match xev e x with
    | some (.agg l) => match getN l off 1 with
      | some [y] => some (.c y, h)
      | _ => none
    | _ => none
  | .fldn off m x => match xev e x with
    | some (.agg l) => match getN l off m with
      | some r => some (.agg r, h)
      | none => none
    | _ => none
  | .ext x i => match xev e x with
    | some (.tup l) => match l[i]? with
      | some v => some (v, h)
      | none => none
    | _ => none
  | .len .sl x => match xev e x with
    | some (.c (.p (.tz _ _ el _))) => some (.c (.p (.int .i64 el.length)), h)
    | some (.c (.sl _ _ m _ _)) => some (.c (.p (.int .i64 m)), h)
    | some (.c (.acc _ _ el)) => some (.c (.p (.int .i64 el.length)), h)
    | _ => none
  | .lenStr x => match xev e x with
    | some (.c (.p (.str l))) => some (.c (.p (.int .i64 l.length)), h)
    | _ => none
  | .min x y => match xev e x, xev e y with
    | some (.c (.p (.int i a))), some (.c (.p (.int _ b))) => some (.c (.p (.int i (minI a b))), h)
    | _, _ => none
  | .max x y => match xev e x, xev e y with
    | some (.c (.p (.int i a))), some (.c (.p (.int _ b))) => some (.c (.p (.int i (maxI a b))), h)
    | _, _ => none
  | _ => none
/-- What waits behind. -/
inductive Fr where
  | seq (b : LC)
  | block (id : Nat)
  | loop (c : LC)
/-- What is being run. -/
inductive Fo where
  | ops (l : List LOp)
  | code (c : LC)
  | out (x : Ex)
def pushS (d : Option Nat) (v : XV) (e : Env) : Env :=
  match d with
  | some d => (d, v) :: e
  | none => e
inductive St where
  | st (f : Fo) (K : List Fr) (e : Env) (h : HS)
  | no
/-- As far as no question is open. -/
def go : Nat → Fo → List Fr → Env → HS → St
  | 0, f, K, e, h => .st (f) K e h
  | m + 1, f, K, e, h => match f with
    | .ops [] => go m (.out .normal) K e h
    | .ops (⟨none, some d, k⟩ :: l) => match stepX k e h with
      | some (v, h') => go m (.ops l) K ((d, v) :: e) h'
      | none => .st (.ops (⟨none, some d, k⟩ :: l)) K e h
    | .ops (⟨none, none, k⟩ :: l) => match stepX k e h with
      | some (_, h') => go m (.ops l) K e h'
      | none => .st (.ops (⟨none, none, k⟩ :: l)) K e h
    | .ops (⟨some (s, w), d, k⟩ :: l) => match look e s, w with
      | some (.c (.p (.bool true))), true => match stepX k e h with
        | some (v, h') => go m (.ops l) K (pushS d v e) h'
        | none => .st (.ops (⟨some (s, w), d, k⟩ :: l)) K e h
      | some (.c (.p (.bool false))), false => match stepX k e h with
        | some (v, h') => go m (.ops l) K (pushS d v e) h'
        | none => .st (.ops (⟨some (s, w), d, k⟩ :: l)) K e h
      | some (.c (.p (.bool true))), false => go m (.ops l) K (pushS d (.tup []) e) h
      | some (.c (.p (.bool false))), true => go m (.ops l) K (pushS d (.tup []) e) h
      | some (.tup _), _ => go m (.ops l) K (pushS d (.tup []) e) h
      | _, _ => .st (.ops (⟨some (s, w), d, k⟩ :: l)) K e h
    | .code (.seq a b) => go m (.code a) (.seq b :: K) e h
    | .code (.reg _ l) => go m (.ops l) K e h
    | .code .skip => go m (.out .normal) K e h
    | .code (.block id a) => go m (.code a) (.block id :: K) e h
    | .code (.cond x a b) => match xev e x with
      | some (.c (.p (.bool true))) => go m (.code a) K e h
      | some (.c (.p (.bool false))) => go m (.code b) K e h
      | _ => .st (.code (.cond x a b)) K e h
    | .out .normal => match K with
      | .seq b :: K => go m (.code b) K e h
      | .block _ :: K => go m (.out .normal) K e h
      | K => .st (.out .normal) K e h
    | .out .ret => match K with
      | _ :: K => go m (.out .ret) K e h
      | [] => .st (.out .ret) [] e h
    | .out (.exit j) => match K with
      | .block id :: K => match Nat.beq j id with
        | true => go m (.out .normal) K e h
        | false => go m (.out (.exit j)) K e h
      | _ :: K => go m (.out (.exit j)) K e h
      | [] => .st (.out (.exit j)) [] e h
    | f => .st (f) K e h
section
variable {P : Program} {base n k : Nat} {e : Env} {h : HS} {Q : QX} {K : List Fr}
/-- A guard says yes. -/
def GOK (e : Env) : Option (Nat × Bool) → Prop
  | none => True
  | some (s, w) => look e s = some (.c (.p (.bool w)))
theorem GOK.wanted {g : Option (Nat × Bool)} (hg : GOK e g) (ops : Array Oper) (o : Oper) (ho : lowG ops o.guard = some g) : wantedS ops (toSF n e) o = some true := by
  cases g with
  | none =>
    unfold lowG at ho
    split at ho
    · rename_i h1; unfold wantedS; rw [h1]
    · repeat' split at ho
      all_goals simp at ho
  | some p =>
    obtain ⟨s, w⟩ := p
    rw [wanted_of ho hg]; simp [XV.sv, XC.sc, PC.sc]
theorem R.op {g : Option (Nat × Bool)} {d : Option Nat} {lk : LK} {l : List LOp} {v : XV} {h' : HS} (hg : GOK e g) (ho : SOp P n lk e h v h') (hx : XR P base n k l (push d v e) h' Q) : XR P base n k (⟨g, d, lk⟩ :: l) e h Q :=
  XR.step (fun _ _ _ => none) (noCall P base) (fun ops o h1 => hg.wanted ops o h1) (fun o hl => ho.run o _ hl) hx
theorem stepX_ok {lk : LK} {v : XV} {h' : HS} (hs : stepX lk e h = some (v, h')) : SOp P n lk e h v h' := by
  unfold stepX at hs
  repeat' split at hs
  all_goals first
    | cases hs; done
    | skip
  all_goals simp only [Option.some.injEq, Prod.mk.injEq] at hs
  all_goals obtain ⟨hs1, hs2⟩ := hs
  all_goals subst hs1 hs2
  all_goals first
    | exact .mv (by assumption)
    | exact .pick_t (by assumption) (by assumption)
    | exact .pick_f (by assumption) (by assumption)
    | exact .new
    | exact .box (by assumption) (by assumption)
    | exact .bld (by assumption)
    | exact .bldS (by assumption) (Nat.eq_of_beq_eq_true (by assumption))
    | exact .ld1 (by assumption) (by assumption) (by assumption)
    | exact .ldn (by assumption) (by assumption) (by assumption)
    | exact .st (by assumption) (by assumption) (by assumption) (Nat.eq_of_beq_eq_true (by assumption)) (by assumption) (by assumption)
    | exact .nilck (by assumption)
    | exact .nilckp (by assumption)
    | exact .nilcke (by assumption)
    | exact .bin (by assumption) (by assumption) (by assumption)
    | exact .un (by assumption) (by assumption)
    | exact .cvI (by assumption)
    | exact .cvId (by assumption)
    | exact .fa (by assumption)
    | exact .fap (by assumption)
    | exact .fae (by assumption)
    | exact .fld1 (by assumption) (by assumption)
    | exact .fldn (by assumption) (by assumption)
    | exact .ext (by assumption) (by assumption)
    | exact .len (by assumption)
    | exact .lenO (by assumption)
    | exact .lenA (by assumption)
    | exact .lenStr (by assumption)
    | exact .min (by assumption) (by assumption)
    | exact .max (by assumption) (by assumption)
def stackQ (P : Program) (base n k : Nat) : List Fr → QX → QX
  | [], Q => Q
  | .seq b :: K, Q => seqQ P base n k b (stackQ P base n k K Q)
  | .block id :: K, Q => blockQ id (stackQ P base n k K Q)
  | .loop c :: K, Q => loopQ P base n k c (stackQ P base n k K Q)
/-- This is run, that waits behind, with these slots and this memory: it ends, and so. -/
structure M (P : Program) (base n k : Nat) (f : Fo) (K : List Fr) (e : Env) (h : HS) (Q : QX) : Prop where
  run : match f with
    | .ops l => XR P base n k l e h (stackQ P base n k K Q)
    | .code c => X P base n k c e h (stackQ P base n k K Q)
    | .out x => stackQ P base n k K Q x e h
theorem M.code {c : LC} (hx : M P base n k (.code c) K e h Q) : X P base n k c e h (stackQ P base n k K Q) := hx.run
theorem M.start {c : LC} (hx : M P base n k (.code c) [] e h Q) : X P base n k c e h Q := hx.run
theorem M.round {c : LC} (hx : M P base n k (.code c) [.loop c] e h Q) : XH P base n k c e h Q := XH.round hx.run
theorem M.q {x : Ex} (hx : M P base n k (.out x) K e h Q) : stackQ P base n k K Q x e h := hx.run
theorem M.loop {c : LC} (hx : XH P base n k c e h (stackQ P base n k K Q)) : M P base n k (.code (.loop c)) K e h Q := ⟨X.loop hx⟩
theorem M.again {c : LC} (hx : XH P base n k c e h (stackQ P base n k K Q)) : M P base n k (.out .normal) (.loop c :: K) e h Q := ⟨hx⟩
theorem M.done {x : Ex} (hx : Q x e h) : M P base n k (.out x) [] e h Q := ⟨hx⟩
theorem M.ret (hx : M P base n k (.out .ret) K e h Q) : M P base n k (.code .ret) K e h Q := ⟨X.ret hx.run⟩
theorem M.exit {id : Nat} (hx : M P base n k (.out (.exit id)) K e h Q) : M P base n k (.code (.exit id)) K e h Q := ⟨X.exit hx.run⟩
theorem M.op {g : Option (Nat × Bool)} {d : Option Nat} {lk : LK} {l : List LOp} {v : XV} {h' : HS} (hg : GOK e g) (ho : SOp P n lk e h v h') (hx : M P base n k (.ops l) K (push d v e) h' Q) : M P base n k (.ops (⟨g, d, lk⟩ :: l)) K e h Q := ⟨R.op hg ho hx.run⟩
theorem M.condB {x : LX} {a b : LC} {t : Bool} (hx : xev e x = some (.c (.p (.bs t)))) (ht : t = true → M P base n k (.code a) K e h Q) (hf : t = false → M P base n k (.code b) K e h Q) : M P base n k (.code (.cond x a b)) K e h Q := ⟨X.cond hx (fun h => (ht h).run) (fun h => (hf h).run)⟩
theorem M.cond {x : LX} {a b : LC} {p : Prop} [Decidable p] (hx : xev e x = some (.c (.p (.bs (decide p))))) (ht : p → M P base n k (.code a) K e h Q) (hf : ¬ p → M P base n k (.code b) K e h Q) : M P base n k (.code (.cond x a b)) K e h Q := ⟨X.cond_d hx (fun h => (ht h).run) (fun h => (hf h).run)⟩
theorem M.condN {x : LX} {a b : LC} {p : Prop} [Decidable p] (hx : xev e x = some (.c (.p (.bs (!decide p))))) (ht : ¬ p → M P base n k (.code a) K e h Q) (hf : p → M P base n k (.code b) K e h Q) : M P base n k (.code (.cond x a b)) K e h Q := ⟨X.cond_n hx (fun h => (ht h).run) (fun h => (hf h).run)⟩
theorem M.ren {f : Fo} {e' : Env} {h' : HS} (ρ : List (Nat × Nat)) (hx : M P base n k f K e' h' Q) (hf : match f with | .out _ => False | _ => True) (hρ : rhoOK ρ k h'.next = true) (he : EnvOK (look ρ) e e') (hh : HeapOK (look ρ) h h'.l) : M P base n k f K e h Q := by
  cases f with
  | ops l => exact ⟨XR.ren ρ hx.run hρ he hh⟩
  | code c => exact ⟨X.ren ρ hx.run hρ he hh⟩
  | out x => exact hf.elim
theorem M.freeze {i b s m : Nat} {el : List PC} {c : Option Nat} {q : LC} (hi : look e i = some (.c (.sl b 0 m s c))) (hb : h.get b = some (.els s el)) (hm : m = el.length) (hx : M P base n k (.code q) K ((i, .c (.p (.tz false s el c))) :: e) (h.put b none) Q) : M P base n k (.code q) K e h Q := ⟨X.freeze hi hb hm hx.run⟩
theorem M.freezeN {i b s m : Nat} {el : List PC} {c : Option Nat} {q : LC} (hi : look e i = some (.c (.sl b 0 m s c))) (hb : h.get b = some (.els s el)) (hm : m = el.length) (hx : M P base n k (.code q) K ((i, .c (.p (.tz false s el none))) :: e) (h.put b none) Q) : M P base n k (.code q) K e h Q := ⟨X.freezeN hi hb hm hx.run⟩
theorem M.freezeR {b0 o b s m : Nat} {el : List PC} {c : Option Nat} {r r' : List XC} {q : LC} (h0 : h.get b0 = some (.row r true)) (hne : Nat.beq b b0 = false) (hi : getN r o 1 = some [.sl b 0 m s c]) (hr' : setN r o [.p (.tz false s el c)] = some r') (hb : h.get b = some (.els s el)) (hm : m = el.length)
    (hx : M P base n k (.code q) K e ((h.put b none).put b0 (some (.row r' true))) Q) : M P base n k (.code q) K e h Q := ⟨X.freezeR h0 hne hi hr' hb hm hx.run⟩
theorem go_ok : ∀ (m : Nat) {f f' : Fo} {K K' : List Fr} {e e' : Env} {h h' : HS}, go m f K e h = .st f' K' e' h' → M P base n k f' K' e' h' Q → M P base n k f K e h Q
  | 0, f, f', K, K', e, e', h, h', hr, hx => by
    simp only [go, St.st.injEq] at hr
    obtain ⟨rfl, rfl, rfl, rfl⟩ := hr
    exact hx
  | m + 1, f, f', K, K', e, e', h, h', hr, hx => by
    have stop : St.st f K e h = .st f' K' e' h' → M P base n k f K e h Q := fun hr => by
      simp only [St.st.injEq] at hr
      obtain ⟨rfl, rfl, rfl, rfl⟩ := hr
      exact hx
    unfold go at hr
    split at hr
    · exact ⟨XR.nil (go_ok m hr hx).run⟩
    · split at hr
      · rename_i hs
        exact .op trivial (stepX_ok hs) (go_ok m hr hx)
      · exact stop hr
    · split at hr
      · rename_i hs
        exact .op trivial (stepX_ok hs) (go_ok m hr hx)
      · exact stop hr
    · split at hr
      · split at hr
        · rename_i hl _ _ _ hs
          exact .op hl (stepX_ok hs) (go_ok m hr hx)
        · exact stop hr
      · split at hr
        · rename_i hl _ _ _ hs
          exact .op hl (stepX_ok hs) (go_ok m hr hx)
        · exact stop hr
      · rename_i hl
        exact ⟨XR.opN hl rfl (go_ok m hr hx).run⟩
      · rename_i hl
        exact ⟨XR.opN hl rfl (go_ok m hr hx).run⟩
      · rename_i hl
        exact ⟨XR.opU hl (go_ok m hr hx).run⟩
      · exact stop hr
    · exact ⟨X.seq (go_ok m hr hx).run⟩
    · exact ⟨X.reg (go_ok m hr hx).run⟩
    · exact ⟨X.skip (go_ok m hr hx).run⟩
    · exact ⟨X.block (go_ok m hr hx).run⟩
    · split at hr
      · rename_i hl; exact ⟨X.cond_t hl (go_ok m hr hx).run⟩
      · rename_i hl; exact ⟨X.cond_f hl (go_ok m hr hx).run⟩
      · exact stop hr
    · split at hr
      · exact ⟨(go_ok m hr hx).run⟩
      · exact ⟨(go_ok m hr hx).run⟩
      · exact stop hr
    · split at hr
      · rename_i fr K1
        have := (go_ok m hr hx).run
        cases fr <;> exact ⟨this⟩
      · exact stop hr
    · split at hr
      · rename_i id K1
        split at hr
        · rename_i hj
          have hj := Nat.eq_of_beq_eq_true hj
          subst hj
          exact ⟨blockQ.hit (go_ok m hr hx).run⟩
        · rename_i hj
          exact ⟨blockQ.miss hj (go_ok m hr hx).run⟩
      · rename_i fr K1 hne
        have := (go_ok m hr hx).run
        cases fr with
        | seq b => exact ⟨this⟩
        | block id => exact absurd rfl (hne id)
        | loop c => exact ⟨this⟩
      · exact stop hr
    · exact stop hr
/-- On, as far as no question is open. -/
theorem M.go {f f' : Fo} {K' : List Fr} {e' : Env} {h' : HS} (hr : go 1000 f K e h = .st f' K' e' h') (hx : M P base n k f' K' e' h' Q) : M P base n k f K e h Q := go_ok 1000 hr hx
/-- Memory is forgotten. -/
theorem XR.forget {l : List LOp} {h' : HS} (hs : ∀ b o, h'.get b = some o → h.get b = some o) (hn : h'.next = h.next) (hx : XR P base n k l e h' Q) : XR P base n k l e h Q := ⟨fun ops lo hl φ a w ht hr R hR => by
  obtain ⟨g1, g2⟩ := hr.forget (h' := h'.sh) (Nat.le_of_eq hn.symm) (fun b q hb => by
    rw [HS.get_sh] at hb ⊢
    cases ho : h'.get b with
    | none => simp [ho] at hb
    | some o => rw [hs b o ho]; rw [ho] at hb; exact hb)
  exact hx.run ops lo hl φ a w ht g1 R fun ex a' w' hp => hR _ _ _ (hp.of (Mo.of g2))⟩
theorem M.forget {l : List LOp} {h' : HS} (hs : ∀ b o, h'.get b = some o → h.get b = some o) (hn : h'.next = h.next) (hx : M P base n k (.ops l) K e h' Q) : M P base n k (.ops l) K e h Q := ⟨XR.forget hs hn hx.run⟩
theorem get_cons {p : Nat × Option XO} {l : List (Nat × Option XO)} {m b : Nat} : HS.get ⟨p :: l, m⟩ b = bif Nat.beq p.1 b then p.2 else HS.get ⟨l, m⟩ b := by
  simp only [HS.get, look_cons]
  cases Nat.beq p.1 b
  · rfl
  · simp only [cond_true]
    cases p.2 <;> rfl
/-- An append to what grows from nil on. -/
theorem M.acc {g : Option (Nat × Bool)} {d : Option Nat} {s bytes b : Nat} {x y : LX} {v : XC} {ex el : List PC} {l : List LOp} (hg : GOK e g) (hx : xev e x = some (accV b s ex)) (hb : look h.l b = some (accO s ex)) (hy : xev e y = some (.c v)) (hel : ElsX h s v el) (h0 : el ≠ []) (hc : (ex.length + el.length) * bytes ≤ 140737488355328)
    (hm : M P base n k (.ops l) K (push d (accV h.next s (ex ++ el)) e) ⟨(h.next, accO s (ex ++ el)) :: (b, none) :: h.l, h.next + 1⟩ Q) : M P base n k (.ops (⟨g, d, .app s bytes x y⟩ :: l)) K e h Q := by
  cases ex with
  | nil =>
    have ho : accO s ([] ++ el) = some (.els s el) := by cases el <;> first | exact absurd rfl h0 | rfl
    rw [ho] at hm
    refine M.op hg (SOp.appA0 hx hy hel h0 (by simpa using hc)) (M.forget (h' := ⟨(h.next, some (.els s el)) :: (b, none) :: h.l, h.next + 1⟩) (fun c o hco => ?_) rfl hm)
    rw [get_cons] at hco
    show HS.get ⟨(h.next, some (.els s el)) :: h.l, h.next + 1⟩ c = some o
    rw [get_cons]
    cases hcb : Nat.beq (h.next, some (XO.els s el)).1 c
    · rw [hcb, cond_false, get_cons] at hco
      cases hbc : Nat.beq (b, (none : Option XO)).1 c
      · rw [hbc] at hco; exact hco
      · rw [hbc] at hco; cases hco
    · rw [hcb] at hco; exact hco
  | cons x0 ex =>
    have hb' : h.get b = some (.els s (x0 :: ex)) := by simp only [HS.get, hb, accO]
    exact M.op hg (SOp.appA hx hb' hy hel h0 hc) hm
theorem put_TR {i : Nat} {v v' : XV} (hi : look e i = some v) (hw : Wk v v') {φ : Ph} {a : Act} (ht : TR φ (toSF n e) a) : TR φ (toSF n ((i, v') :: e)) a := ⟨ht.n, fun j u hu => by
  rw [get_toSF, look_cons] at hu
  by_cases hj : Nat.beq i j = true
  · simp only [hj, cond_true, Option.map_some, Option.some.injEq] at hu
    have := Nat.eq_of_beq_eq_true hj
    subst this hu
    obtain ⟨g1, g2⟩ := ht.at_ i v.sv (by rw [get_toSF, hi]; rfl)
    exact ⟨g1, hw φ _ g2⟩
  · rw [Bool.eq_false_iff.2 hj, cond_false] at hu
    exact ht.at_ j u (by rw [get_toSF]; exact hu)⟩
/-- A slot holds also that. -/
theorem M.wk {i : Nat} {v v' : XV} {q : LC} (hi : look e i = some v) (hw : Wk v v') (hx : M P base n k (.code q) K ((i, v') :: e) h Q) : M P base n k (.code q) K e h Q := ⟨⟨fun code hl φ a w ht hr => hx.run.run code hl φ a w (put_TR hi hw ht) hr⟩⟩
theorem M.wkO {i : Nat} {v v' : XV} {l : List LOp} (hi : look e i = some v) (hw : Wk v v') (hx : M P base n k (.ops l) K ((i, v') :: e) h Q) : M P base n k (.ops l) K e h Q := ⟨⟨fun ops lo hl φ a w ht hr => hx.run.run ops lo hl φ a w (put_TR hi hw ht) hr⟩⟩
theorem M.forgetC {c : LC} {h' : HS} (hs : ∀ b o, h'.get b = some o → h.get b = some o) (hn : h'.next = h.next) (hx : M P base n k (.code c) K e h' Q) : M P base n k (.code c) K e h Q := ⟨⟨fun code hl φ a w ht hr => by
  obtain ⟨g1, g2⟩ := hr.forget (h' := h'.sh) (Nat.le_of_eq hn.symm) (fun b q hb => by
    rw [HS.get_sh] at hb ⊢
    cases ho : h'.get b with
    | none => simp [ho] at hb
    | some o => rw [hs b o ho]; rw [ho] at hb; exact hb)
  exact wp_mono (hx.run.run code hl φ a w ht g1) fun ex a' w' hp => hp.of (Mo.of g2)⟩⟩
theorem M.envC {e' : Env} {c : LC} (he : ∀ j v, look e' j = some v → look e j = some v) (hx : M P base n k (.code c) K e' h Q) : M P base n k (.code c) K e h Q := ⟨⟨fun code hl φ a w ht hr => hx.run.run code hl φ a w ⟨ht.n, fun j u hu => by
  rw [get_toSF] at hu
  cases hj : look e' j with
  | none => simp [hj] at hu
  | some v => exact ht.at_ j u (by rw [get_toSF, he j v hj]; rw [hj] at hu; exact hu)⟩ hr⟩⟩
/-- What grew from nil on is frozen. -/
theorem M.accF {i b s : Nat} {el : List PC} {c : LC} (hi : look e i = some (accV b s el)) (hb : look h.l b = some (accO s el)) (hx : M P base n k (.code c) K ((i, .c (.p (.tz true s el none))) :: e) (h.put b none) Q) : M P base n k (.code c) K e h Q := by
  cases el with
  | nil =>
    refine M.forgetC (h' := h.put b none) (fun d o hd => ?_) rfl (M.wk hi (v' := .c (.p (.tz true s [] none))) (Wk.of rfl) hx)
    have h1 : HS.get ⟨(b, none) :: h.l, h.next⟩ d = some o := hd
    rw [get_cons] at h1
    cases hbd : Nat.beq (b, (none : Option XO)).1 d
    · rw [hbd] at h1; exact h1
    · rw [hbd] at h1; cases h1
  | cons x l =>
    refine M.wk hi (v' := .c (.sl b 0 (x :: l).length s none)) (Wk.of rfl) (M.freezeN (i := i) (b := b) (s := s) (m := (x :: l).length) (el := x :: l) (c := none) (by rw [look_cons]; simp) (by simp only [HS.get, hb, accO]) rfl (M.wk (i := i) (v := .c (.p (.tz false s (x :: l) none))) (v' := .c (.p (.tz true s (x :: l) none))) (by rw [look_cons]; simp) (Wk.some (by simp)) (M.envC (fun j v hj => ?_) hx)))
    rw [look_cons] at hj ⊢
    cases hb : Nat.beq i j
    · rw [hb] at hj
      rw [look_cons, look_cons]
      simp only [hb, cond_false]
      exact hj
    · rw [hb] at hj; exact hj
theorem accV_ren {g : Nat → Option Nat} {b b' s : Nat} {el : List PC} (h : g b = some b') : (accV b s el).ren g = some (accV b' s el) := by simp only [accV, XV.ren, XC.ren, h]
theorem HeapOK.acc {g : Nat → Option Nat} {h : HS} {b b' s : Nat} {el : List PC} {r : List (Nat × Option XO)} (hg : g b = some b') (hl : look h.l b' = some (accO s el)) (hr : HeapOK g h r) : HeapOK g h ((b, accO s el) :: r) := by
  cases el with
  | nil => exact hr
  | cons x l => exact ⟨⟨b', _, _, hg, rfl, by simp only [HS.get, hl, accO], WkO.rfl⟩, hr⟩
/-- A contract is used. -/
theorem M.use {g : Option (Nat × Bool)} {d : Option Nat} {f : FuncId} {as : List LX} {l : List LOp} {vs args : List XV} {r r2 : XV} {hs hs' : HS} (hg : GOK e g) (C : CallS P base f args hs r hs') (ρ : List (Nat × Nat)) (ha : xevs e as = some vs) (hv : XV.rens (look ρ) args = some vs) (hρ : rhoIn ρ hs h.next = true) (hh : HeapOK (look ρ) h hs.l)
    {l2 : List (Nat × Option XO)} (hr2 : r.ren (gOf ρ hs.next h.next) = some r2) (hl2 : frameL (gOf ρ hs.next h.next) hs'.l = some l2) (hx : M P base n k (.ops l) K (push d r2 e) ⟨appL l2 (appL (drops ρ) h.l), h.next + (hs'.next - hs.next)⟩ Q) :
    M P base n k (.ops (⟨g, d, .call f as⟩ :: l)) K e h Q :=
  ⟨XR.step (oneCall f (vs.map XV.sv) h.sh r2.sv _) (oneCall_ok (C.use ρ hρ hv hh hr2 hl2)) (fun ops o h1 => hg.wanted ops o h1) (fun o hl => step_call ha (by simp [oneCall]) o hl) hx.run⟩
/-- A function without memory: nothing changes. -/
theorem M.use0 {g : Option (Nat × Bool)} {d : Option Nat} {f : FuncId} {as : List LX} {l : List LOp} {vs args : List XV} {r : XV} (hg : GOK e g) (C : CallS P base f args ⟨[], 0⟩ r ⟨[], 0⟩) (ha : xevs e as = some vs) (hv : XV.rens (look []) args = some vs) (hr : r.ren (gOf [] 0 h.next) = some r)
    (hx : M P base n k (.ops l) K (push d r e) h Q) : M P base n k (.ops (⟨g, d, .call f as⟩ :: l)) K e h Q :=
  M.use hg C [] ha hv rfl trivial hr rfl hx
/-- A flag in a slot is decided. -/
theorem XR.dec {s : Nat} {b : Bool} {l : List LOp} (hg : look e s = some (.c (.p (.bs b)))) (ht : b = true → XR P base n k l ((s, .c (.p (.bool true))) :: e) h Q) (hf : b = false → XR P base n k l ((s, .c (.p (.bool false))) :: e) h Q) : XR P base n k l e h Q := by
  have key : ∀ t, b = t → XR P base n k l ((s, .c (.p (.bool t))) :: e) h Q → XR P base n k l e h Q := fun t hb hx => ⟨fun ops lo hl φ a w ht hr R hR => by
    subst hb
    refine hx.run ops lo hl φ a w ⟨ht.n, fun i v hv => ?_⟩ hr R hR
    rw [get_toSF, look_cons] at hv
    by_cases hi : Nat.beq s i = true
    · rw [hi] at hv
      simp only [cond_true, Option.map_some, Option.some.injEq] at hv
      have := Nat.eq_of_beq_eq_true hi
      subst this hv
      have := ht.at_ s (XV.sv (.c (.p (.bs b)))) (by rw [get_toSF, hg]; rfl)
      exact this
    · rw [Bool.eq_false_iff.2 hi] at hv
      exact ht.at_ i v (by rw [get_toSF]; exact hv)⟩
  cases b with
  | true => exact key _ rfl (ht rfl)
  | false => exact key _ rfl (hf rfl)
theorem M.decB {s : Nat} {b g : Bool} {d : Option Nat} {lk : LK} {l : List LOp} (hg : look e s = some (.c (.p (.bs b)))) (ht : b = true → M P base n k (.ops (⟨some (s, g), d, lk⟩ :: l)) K ((s, .c (.p (.bool true))) :: e) h Q) (hf : b = false → M P base n k (.ops (⟨some (s, g), d, lk⟩ :: l)) K ((s, .c (.p (.bool false))) :: e) h Q) : M P base n k (.ops (⟨some (s, g), d, lk⟩ :: l)) K e h Q :=
  ⟨XR.dec hg (fun h => (ht h).run) (fun h => (hf h).run)⟩
theorem M.dec {s : Nat} {p : Prop} [Decidable p] {g : Bool} {d : Option Nat} {lk : LK} {l : List LOp} (hg : look e s = some (.c (.p (.bs (decide p))))) (ht : p → M P base n k (.ops (⟨some (s, g), d, lk⟩ :: l)) K ((s, .c (.p (.bool true))) :: e) h Q) (hf : ¬ p → M P base n k (.ops (⟨some (s, g), d, lk⟩ :: l)) K ((s, .c (.p (.bool false))) :: e) h Q) : M P base n k (.ops (⟨some (s, g), d, lk⟩ :: l)) K e h Q :=
  M.decB hg (fun h => ht (of_decide_eq_true h)) (fun h => hf (of_decide_eq_false h))
theorem M.decN {s : Nat} {p : Prop} [Decidable p] {g : Bool} {d : Option Nat} {lk : LK} {l : List LOp} (hg : look e s = some (.c (.p (.bs (!decide p))))) (ht : ¬ p → M P base n k (.ops (⟨some (s, g), d, lk⟩ :: l)) K ((s, .c (.p (.bool true))) :: e) h Q) (hf : p → M P base n k (.ops (⟨some (s, g), d, lk⟩ :: l)) K ((s, .c (.p (.bool false))) :: e) h Q) : M P base n k (.ops (⟨some (s, g), d, lk⟩ :: l)) K e h Q :=
  M.decB hg (fun h => ht (by simpa using h)) (fun h => hf (by simpa using h))
theorem M.decP {s : Nat} {b : Bool} {g : Option (Nat × Bool)} {d : Option Nat} {x y : LX} {l : List LOp} (hg : look e s = some (.c (.p (.bs b)))) (ht : b = true → M P base n k (.ops (⟨g, d, .pick (.t s) x y⟩ :: l)) K ((s, .c (.p (.bool true))) :: e) h Q) (hf : b = false → M P base n k (.ops (⟨g, d, .pick (.t s) x y⟩ :: l)) K ((s, .c (.p (.bool false))) :: e) h Q) : M P base n k (.ops (⟨g, d, .pick (.t s) x y⟩ :: l)) K e h Q :=
  ⟨XR.dec hg (fun h => (ht h).run) (fun h => (hf h).run)⟩
/-- At a region's end: these slots, this memory, whatever the way was. -/
def outQ (k : Nat) (e' : Env) (h' : HS) : QX := fun x e h => x = .normal ∧ ∃ ρ, rhoOK ρ k h'.next = true ∧ EnvOK (look ρ) e e' ∧ HeapOK (look ρ) h h'.l
theorem M.mid {l : List LOp} (e' : Env) (h' : HS) (hx : M P base n k (.ops l) [] e h (outQ k e' h')) (hq : M P base n k (.out .normal) K e' h' Q) : M P base n k (.ops l) K e h Q := ⟨⟨fun ops lo hl φ a w ht hr R hR =>
  hx.run.run ops lo hl φ a w ht hr R fun ex a' w' ⟨x, e2, h2, φ', ⟨p0, ρ, p1, p3, p4⟩, p2, p5, p6, p7, p8⟩ => hR _ _ _ (by
    subst p0
    obtain ⟨g1, g2, g3⟩ := ren_state (k := k) p1 p3 p4 p5 p7
    exact ⟨.normal, e', h', _, hq.run, p2, g1, p6, g2, p8.trans g3⟩)⟩⟩
theorem M.end {e' : Env} {h' : HS} (ρ : List (Nat × Nat)) (hρ : rhoOK ρ k h'.next = true) (he : EnvOK (look ρ) e e') (hh : HeapOK (look ρ) h h'.l) : M P base n k (.out .normal) [] e h (outQ k e' h') := ⟨rfl, ρ, hρ, he, hh⟩
end
end Go.Proofs.Ytgaaffanoegbhaa.Sym
