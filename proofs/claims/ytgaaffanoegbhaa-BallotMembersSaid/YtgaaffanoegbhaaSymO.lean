/- What an operation does, its types resolved. No program in sight. -/
import Derived.Test.YtgaaffanoegbhaaSymL
namespace Go.Proofs.Ytgaaffanoegbhaa.Sym
open Go Go.RowKit Go.Proofs.Ytgaaffanoegbhaa.Sim
set_option linter.unusedSimpArgs false
set_option linter.unusedVariables false

def cmpX (op : BinOp) (x y : Int) : Option PC :=
  match op with
  | .eql => some (.bs (decide (x = y)))
  | .neq => some (.bs (!decide (x = y)))
  | .lss => some (.bs (decide (x < y)))
  | .leq => some (.bs (decide (x ≤ y)))
  | .gtr => some (.bs (decide (y < x)))
  | .geq => some (.bs (decide (y ≤ x)))
  | _ => none
def intX (op : BinOp) (k : IntKind) (x y : Int) : Option PC :=
  match op with
  | .add => some (.int k (k.wrap (x + y)))
  | .sub => some (.int k (k.wrap (x - y)))
  | .mul => some (.int k (k.wrap (x * y)))
  | .quo => if y = 0 then none else some (.int k (k.wrap (x.tdiv y)))
  | .rem => if y = 0 then none else some (.int k (x.tmod y))
  | .and => some (.int k (bits .and k x y))
  | .or => some (.int k (bits .or k x y))
  | .xor => some (.int k (bits .xor k x y))
  | .andNot => some (.int k (bits .andNot k x y))
  | .eql => some (.bs (decide (x = y)))
  | .neq => some (.bs (!decide (x = y)))
  | .lss => some (.bs (decide (x < y)))
  | .leq => some (.bs (decide (x ≤ y)))
  | .gtr => some (.bs (decide (y < x)))
  | .geq => some (.bs (decide (y ≤ x)))
  | _ => none
def strX (op : BinOp) (x y : List Nat) : Option PC :=
  match op with
  | .add => if x.length + y.length ≤ 9223372036854775807 then some (.str (x ++ y)) else none
  | .eql => some (.bs (eqL x y))
  | .neq => some (.bs (!eqL x y))
  | .lss => some (.bs (sBytesLess x y))
  | .leq => some (.bs (sBytesLess x y || eqL x y))
  | .gtr => some (.bs (!(sBytesLess x y || eqL x y)))
  | .geq => some (.bs (!sBytesLess x y))
  | _ => none
def nilX : NK → XC → XC → Option PC
  | .ptr, .p .nilp, .p .nilp => some (.bool true)
  | .ptr, .p .nilp, .ptr _ _ => some (.bool false)
  | .ptr, .ptr _ _, .p .nilp => some (.bool false)
  | .ptr, .p .nilp, .p (.tp _ _) => some (.bool false)
  | .ptr, .p (.tp _ _), .p .nilp => some (.bool false)
  | .ptr, .p .nilp, .p (.te _ _ _ _) => some (.bool false)
  | .ptr, .p (.te _ _ _ _), .p .nilp => some (.bool false)
  | .sl, .p (.tz z _ el _), .p (.tz true _ [] _) => some (.bs (z && el.isEmpty))
  | .sl, .sl _ _ _ _ _, .p (.tz true _ [] _) => some (.bool false)
  | .mp, .p .nomap, .p .nomap => some (.bool true)
  | .mp, .p .nomap, .mp _ => some (.bool false)
  | .mp, .mp _, .p .nomap => some (.bool false)
  | .bool, .p (.bool a), .p (.bool b) => some (.bs (a == b))
  | .bool, .p (.bs a), .p (.bool b) => some (.bs (a == b))
  | .bool, .p (.bool a), .p (.bs b) => some (.bs (a == b))
  | .bool, .p (.bs a), .p (.bs b) => some (.bs (a == b))
  | _, _, _ => none
def notP : PC → PC
  | .bool true => .bool false
  | .bool false => .bool true
  | .bs b => .bs (!b)
  | x => x
def binX (k : NK) (op : BinOp) (x y : XC) : Option PC :=
  match x, y with
  | .p (.int i a), .p (.int j b) =>
    match op with
    | .shl => if b < 0 then none else some (.int i (i.wrap (a * 2 ^ (min b.toNat i.bits))))
    | .shr => if b < 0 then none else some (.int i (a.fdiv (2 ^ (min b.toNat i.bits))))
    | op => if i = j then intX op i a b else none
  | .p (.str a), .p (.str b) => strX op a b
  | x, y => match op with
    | .eql => match nilX k x y with
      | some b => some b
      | none => none
    | .neq => match nilX k x y with
      | some b => some (notP b)
      | none => none
    | _ => none
theorem intX_sc {op : BinOp} {k : IntKind} {x y : Int} {r : PC} (h : intX op k x y = some r) : sInt op k x y = some r.sc := by
  cases op <;> simp only [intX, sInt, sCmp] at h ⊢ <;> first
    | (split at h <;> first | (cases h; done) | (rename_i hc; simp only [Option.some.injEq] at h; subst h; rw [if_neg hc]; rfl))
    | (simp only [Option.some.injEq] at h; subst h; rfl)
    | (cases h; done)
theorem strX_sc {op : BinOp} {x y : List Nat} {r : PC} (h : strX op x y = some r) : sStr op x y = some r.sc := by
  cases op <;> simp only [strX, sStr] at h ⊢ <;> first
    | (split at h <;> first | (cases h; done) | (rename_i hc; simp only [Option.some.injEq] at h; subst h; rw [if_pos hc]; rfl))
    | (simp only [Option.some.injEq] at h; subst h; rfl)
    | (cases h; done)
theorem nilX_sc {d : Option TypeDesc} {x y : XC} {r : PC} (h : nilX (nkOf d) x y = some r) : ∃ d0 b, d = some d0 ∧ sNil d0 x.sc y.sc = some b ∧ r.sc = .bool b ∧ (notP r).sc = .bool (!b) := by
  have key : ∀ k, nkOf d = k → (k = .ptr → ∃ e, d = some (.pointer e)) ∧ (k = .sl → ∃ e, d = some (.slice e)) ∧ (k = .mp → ∃ a e, d = some (.map a e)) ∧ (k = .bool → d = some .bool) := by
    intro k hk
    unfold nkOf at hk
    split at hk <;> subst hk <;> simp
  generalize hk : nkOf d = k at h
  obtain ⟨k1, k2, k3, k4⟩ := key k hk
  unfold nilX at h
  split at h
  all_goals first
    | cases h; done
    | (simp only [Option.some.injEq] at h; subst h)
  all_goals first
    | (obtain ⟨e, rfl⟩ := k1 rfl; exact ⟨_, _, rfl, rfl, rfl, rfl⟩)
    | (obtain ⟨e, rfl⟩ := k2 rfl; exact ⟨_, _, rfl, rfl, rfl, rfl⟩)
    | (obtain ⟨a, e, rfl⟩ := k3 rfl; exact ⟨_, _, rfl, rfl, rfl, rfl⟩)
    | (obtain rfl := k4 rfl; exact ⟨_, _, rfl, rfl, rfl, rfl⟩)
    | skip
  rename_i z s el c s' c'
  obtain ⟨e, rfl⟩ := k2 rfl
  refine ⟨_, z && el.isEmpty, rfl, ?_, rfl, rfl⟩
  cases hz : (z && el.isEmpty) <;> simp [XC.sc, PC.sc, hz, sNil]
theorem nilX_no {k : NK} {x y : XC} {b : PC} (h : nilX k x y = some b) : (∀ i n j m, ¬ (x.sc = .int i n ∧ y.sc = .int j m)) ∧ (∀ l r, ¬ (x.sc = .str l ∧ y.sc = .str r)) := by
  unfold nilX at h
  split at h
  all_goals first
    | cases h; done
    | (refine ⟨fun i n j m hh => ?_, fun l r hh => ?_⟩ <;> simp [XC.sc, PC.sc] at hh)
theorem sBin_nil {d0 : TypeDesc} {op : BinOp} {x y : SC} (h1 : ∀ i n j m, ¬ (x = .int i n ∧ y = .int j m)) (h2 : ∀ l r, ¬ (x = .str l ∧ y = .str r)) :
    sBin (some d0) op x y = match op with
      | .eql => (sNil d0 x y).map .bool
      | .neq => (sNil d0 x y).map fun b => .bool (!b)
      | _ => none := by
  unfold sBin
  split
  · exact absurd ⟨rfl, rfl⟩ (h1 _ _ _ _)
  · exact absurd ⟨rfl, rfl⟩ (h2 _ _)
  · rfl
theorem binX_sc {d : Option TypeDesc} {op : BinOp} {x y : XC} {r : PC} (h : binX (nkOf d) op x y = some r) : sBin d op x.sc y.sc = some r.sc := by
  unfold binX at h
  split at h
  · rename_i i a j b
    show sBin d op (.int i a) (.int j b) = some r.sc
    split at h
    · split at h
      · cases h
      · rename_i hc; simp only [Option.some.injEq] at h; subst h; simp only [sBin, if_neg hc, PC.sc]
    · split at h
      · cases h
      · rename_i hc; simp only [Option.some.injEq] at h; subst h; simp only [sBin, if_neg hc, PC.sc]
    · split at h
      · rename_i h1 h2 hc
        subst hc
        rw [← intX_sc h]
        cases op <;> first | exact (h1 rfl).elim | exact (h2 rfl).elim | simp [sBin]
      · cases h
  · simp only [XC.sc, PC.sc, sBin]
    exact strX_sc h
  · split at h
    · split at h
      · rename_i b hb
        simp only [Option.some.injEq] at h; subst h
        obtain ⟨d0, b0, rfl, h1, h4, h5⟩ := nilX_sc hb
        obtain ⟨h2, h3⟩ := nilX_no hb
        rw [sBin_nil h2 h3, h1]; simp only [Option.map_some, h4, h5]
      · cases h
    · split at h
      · rename_i b hb
        simp only [Option.some.injEq] at h; subst h
        obtain ⟨d0, b0, rfl, h1, h4, h5⟩ := nilX_sc hb
        obtain ⟨h2, h3⟩ := nilX_no hb
        rw [sBin_nil h2 h3, h1]; simp only [Option.map_some, h4, h5]
      · cases h
    · cases h
def unX (op : UnOp) (x : XC) : Option PC :=
  match op, x with
  | .neg, .p (.int k n) => some (.int k (k.wrap (0 - n)))
  | .xor, .p (.int k n) => some (.int k (bits .xor k (if k.signed then -1 else k.max) n))
  | .not, .p (.bool b) => some (notP (.bool b))
  | .not, .p (.bs b) => some (.bs !b)
  | _, _ => none
theorem unX_sc {op : UnOp} {x : XC} {r : PC} (h : unX op x = some r) : sUn op x.sc = some r.sc := by
  unfold unX at h
  split at h
  all_goals first
    | cases h; done
    | (simp only [Option.some.injEq] at h; subst h; rfl)
    | (rename_i b; simp only [Option.some.injEq] at h; subst h; cases b <;> rfl)

/-- What an operation does: its value, the memory behind it. -/
structure SOp (P : Program) (n : Nat) (k : LK) (e : Env) (h : HS) (v : XV) (h' : HS) : Prop where
  run : ∀ (o : Oper) (call : FuncId → List SV → SH → Option (SV × SH)), Lw P o.op k → Sim.step P call (toSF n e) h.sh o = some (v.sv, h'.sh)
section ops
variable {P : Program} {n : Nat} {e : Env} {h : HS}
theorem get_row {b : Nat} {l : List XC} {own : Bool} (hb : h.get b = some (.row l own)) : h.sh.get b = some (.row (l.map XC.sc) own) := by rw [HS.get_sh, hb]; rfl
theorem get_els {b s : Nat} {el : List PC} (hb : h.get b = some (.els s el)) : h.sh.get b = some (.row (flatE s el) true) := by rw [HS.get_sh, hb]; rfl
theorem get_map {b c : Nat} {es : List (Nat × XC × XV)} (hb : h.get b = some (.map es c)) : h.sh.get b = some (.map (es.map fun e => (e.1, e.2.1.sc, e.2.2.sv)) c) := by rw [HS.get_sh, hb]; rfl
theorem SOp.mv {x : LX} {v : XV} (hx : xev e x = some v) : SOp P n (.mv x) e h v h := ⟨fun o call hw => by
  generalize ho : o.op = op at hw
  cases hw with
  | mv h1 => simp only [Sim.step, ho, xev_ev h1 hx, Option.map_some]
  | asg h1 => simp only [Sim.step, ho, xev_ev h1 hx, Option.map_some]⟩
theorem SOp.pick_t {c a b : LX} {v : XV} (hc : xev e c = some (.c (.p (.bool true)))) (ha : xev e a = some v) : SOp P n (.pick c a b) e h v h := ⟨fun o call hw => by
  generalize ho : o.op = op at hw
  cases hw with
  | pick h1 h2 h3 => simp only [Sim.step, ho, xev_ev h1 hc, XV.sv, XC.sc, PC.sc, xev_ev h2 ha, Option.map_some]⟩
theorem SOp.pick_f {c a b : LX} {v : XV} (hc : xev e c = some (.c (.p (.bool false)))) (hb : xev e b = some v) : SOp P n (.pick c a b) e h v h := ⟨fun o call hw => by
  generalize ho : o.op = op at hw
  cases hw with
  | pick h1 h2 h3 => simp only [Sim.step, ho, xev_ev h1 hc, XV.sv, XC.sc, PC.sc, xev_ev h3 hb, Option.map_some]⟩
theorem SOp.new {z : List XC} : SOp P n (.new z) e h (.c (.ptr h.next 0)) (h.new z) := ⟨fun o call hw => by
  generalize ho : o.op = op at hw
  cases hw with
  | new h1 => simp only [Sim.step, ho, zeroX_sc h1]; rfl⟩
theorem SOp.box {x : LX} {v : XV} {l : List XC} (hx : xev e x = some v) (hl : v.cells = some l) : SOp P n (.box x) e h (.c (.ptr h.next 0)) (h.new l) := ⟨fun o call hw => by
  generalize ho : o.op = op at hw
  cases hw with
  | box h1 => simp only [Sim.step, ho, xev_ev h1 hx, XV.cells_sv hl]; rfl⟩
theorem SOp.ld1 {x : LX} {b o : Nat} {l : List XC} {own : Bool} {y : XC} (hx : xev e x = some (.c (.ptr b o))) (hb : h.get b = some (.row l own)) (hl : getN l o 1 = some [y]) : SOp P n (.ld1 x) e h (.c y) h := ⟨fun q call hw => by
  generalize ho : q.op = op at hw
  cases hw with
  | ld1 h1 h2 h3 =>
    obtain ⟨s, h3⟩ := Option.isSome_iff_exists.1 h3
    obtain ⟨g1, g2⟩ := map_getN XC.sc hl
    simp only [Sim.step, ho, xev_ev h1 hx, XV.sv, XC.sc, sLoad, h2, h3, SH.read, get_row hb, if_pos g1, g2, List.map_cons, List.map_nil, Option.map_some]⟩
theorem SOp.ldn {x : LX} {b o s : Nat} {l r : List XC} {own : Bool} (hx : xev e x = some (.c (.ptr b o))) (hb : h.get b = some (.row l own)) (hl : getN l o s = some r) : SOp P n (.ldn s x) e h (.agg r) h := ⟨fun q call hw => by
  generalize ho : q.op = op at hw
  cases hw with
  | ldn h1 h2 h3 =>
    obtain ⟨g1, g2⟩ := map_getN XC.sc hl
    simp only [Sim.step, ho, xev_ev h1 hx, XV.sv, XC.sc, sLoad, h2, h3, SH.read, get_row hb, if_pos g1, g2, Option.map_some]⟩
theorem flats_getN {l r : List PC} {o s : Nat} (h : getN l o s = some r) (h1 : l.all PC.one = true) : o + s ≤ (flats l).length ∧ ((flats l).drop o).take s = (r.map XC.p).map XC.sc := by
  rw [flats_ones h1]
  obtain ⟨g1, g2⟩ := map_getN PC.sc h
  exact ⟨g1, by rw [g2, List.map_map]; rfl⟩
/-- From cells that stay. -/
theorem SOp.ld1p {x : LX} {o : Nat} {l : List PC} {y : PC} (hx : xev e x = some (.c (.p (.tp l o)))) (h0 : l.all PC.one = true) (hl : getN l o 1 = some [y]) : SOp P n (.ld1 x) e h (.c (.p y)) h := ⟨fun q call hw => by
  generalize ho : q.op = op at hw
  cases hw with
  | ld1 h1 h2 h3 =>
    obtain ⟨s, h3⟩ := Option.isSome_iff_exists.1 h3
    obtain ⟨g1, g2⟩ := flats_getN hl h0
    have g3 : (flats l)[o]? = some y.sc := by
      have := congrArg (·[0]?) g2
      simpa [List.getElem?_take, List.getElem?_drop, XC.sc] using this
    simp only [Sim.step, ho, xev_ev h1 hx, XV.sv, XC.sc, PC.sc, sLoadL, h2, h3, g3, Option.map_some]⟩
theorem SOp.ldnp {x : LX} {o s : Nat} {l r : List PC} (hx : xev e x = some (.c (.p (.tp l o)))) (h0 : l.all PC.one = true) (hl : getN l o s = some r) : SOp P n (.ldn s x) e h (.agg (r.map XC.p)) h := ⟨fun q call hw => by
  generalize ho : q.op = op at hw
  cases hw with
  | ldn h1 h2 h3 =>
    obtain ⟨g1, g2⟩ := flats_getN hl h0
    simp only [Sim.step, ho, xev_ev h1 hx, XV.sv, XC.sc, PC.sc, sLoadL, h2, h3, if_pos g1, g2, Option.map_some]⟩
theorem SOp.st {x y : LX} {b o s : Nat} {v : XV} {l cs l' : List XC} (hx : xev e x = some (.c (.ptr b o))) (hy : xev e y = some v) (hv : v.cells = some cs) (hs : cs.length = s) (hb : h.get b = some (.row l true)) (hl : setN l o cs = some l') :
    SOp P n (.st s x y) e h (.tup []) (h.put b (some (.row l' true))) := ⟨fun q call hw => by
  generalize ho : q.op = op at hw
  cases hw with
  | st h1 h2 h3 =>
    obtain ⟨g1, g2⟩ := map_setN XC.sc hl
    simp only [Sim.step, ho, xev_ev h1 hx, xev_ev h2 hy, XV.sv, XC.sc, h3, XV.cells_sv hv, List.length_map, hs, if_true, SH.write, get_row hb, if_pos (show o + s ≤ _ by simpa [hs] using g1), g2, Option.map_some, XV.svs]
    rfl⟩
theorem SOp.nilck {x : LX} {b o : Nat} (hx : xev e x = some (.c (.ptr b o))) : SOp P n (.nilck x) e h (.c (.ptr b o)) h := ⟨fun q call hw => by
  generalize ho : q.op = op at hw
  cases hw with
  | nilck h1 => simp only [Sim.step, ho, xev_ev h1 hx, XV.sv, XC.sc]⟩
theorem SOp.nilckp {x : LX} {o : Nat} {l : List PC} (hx : xev e x = some (.c (.p (.tp l o)))) : SOp P n (.nilck x) e h (.c (.p (.tp l o))) h := ⟨fun q call hw => by
  generalize ho : q.op = op at hw
  cases hw with
  | nilck h1 => simp only [Sim.step, ho, xev_ev h1 hx, XV.sv, XC.sc, PC.sc]⟩
theorem SOp.bin {k : NK} {op : BinOp} {x y : LX} {u v : XC} {r : PC} (hx : xev e x = some (.c u)) (hy : xev e y = some (.c v)) (hr : binX k op u v = some r) : SOp P n (.bin k op x y) e h (.c (.p r)) h := ⟨fun q call hw => by
  generalize ho : q.op = op' at hw
  cases hw with
  | bin h1 h2 => simp only [Sim.step, ho, xev_ev h1 hx, xev_ev h2 hy, XV.sv, binX_sc hr, Option.map_some, XC.sc]⟩
theorem SOp.un {op : UnOp} {x : LX} {u : XC} {r : PC} (hx : xev e x = some (.c u)) (hr : unX op u = some r) : SOp P n (.un op x) e h (.c (.p r)) h := ⟨fun q call hw => by
  generalize ho : q.op = op' at hw
  cases hw with
  | un h1 => simp only [Sim.step, ho, xev_ev h1 hx, XV.sv, unX_sc hr, Option.map_some, XC.sc]⟩
theorem SOp.cvI {k j : IntKind} {x : LX} {m : Int} (hx : xev e x = some (.c (.p (.int j m)))) : SOp P n (.cvI k x) e h (.c (.p (.int k (k.wrap m)))) h := ⟨fun q call hw => by
  generalize ho : q.op = op' at hw
  cases hw with
  | cvI h1 h2 h3 => simp only [Sim.step, ho, xev_ev h1 hx, XV.sv, XC.sc, PC.sc, sConvert, h2, h3]⟩
theorem SOp.cvId {x : LX} {l : List Nat} (hx : xev e x = some (.c (.p (.str l)))) : SOp P n (.cvId x) e h (.c (.p (.str l))) h := ⟨fun q call hw => by
  generalize ho : q.op = op' at hw
  cases hw with
  | cvId h1 h2 h3 => simp only [Sim.step, ho, xev_ev h1 hx, XV.sv, XC.sc, PC.sc, sConvert, h2, h3]⟩
theorem SOp.fa {off b o : Nat} {x : LX} (hx : xev e x = some (.c (.ptr b o))) : SOp P n (.fa off x) e h (.c (.ptr b (o + off))) h := ⟨fun q call hw => by
  generalize ho : q.op = op' at hw
  cases hw with
  | fa h1 h2 h3 h4 h5 => simp only [Sim.step, ho, xev_ev h1 hx, XV.sv, XC.sc, sFieldAddr, h2, h3, h4, if_neg h5, Option.map_some]⟩
theorem SOp.fap {off o : Nat} {l : List PC} {x : LX} (hx : xev e x = some (.c (.p (.tp l o)))) : SOp P n (.fa off x) e h (.c (.p (.tp l (o + off)))) h := ⟨fun q call hw => by
  generalize ho : q.op = op' at hw
  cases hw with
  | fa h1 h2 h3 h4 h5 => simp only [Sim.step, ho, xev_ev h1 hx, XV.sv, XC.sc, PC.sc, sFieldAddr, h2, h3, h4, if_neg h5, Option.map_some]⟩
theorem SOp.fld1 {off : Nat} {l : List XC} {x : LX} {y : XC} (hx : xev e x = some (.agg l)) (hl : getN l off 1 = some [y]) : SOp P n (.fld1 off x) e h (.c y) h := ⟨fun q call hw => by
  generalize ho : q.op = op' at hw
  cases hw with
  | fld1 h1 h2 h3 h4 h5 =>
    obtain ⟨s, h5⟩ := Option.isSome_iff_exists.1 h5
    obtain ⟨g1, g2⟩ := map_getN XC.sc hl
    have g3 := congrArg (·[0]?) g2
    simp only [List.getElem?_take, List.getElem?_drop, List.map_cons, List.getElem?_cons_zero, Nat.lt_add_one, if_true, Nat.add_zero] at g3
    simp only [Sim.step, ho, xev_ev h1 hx, XV.sv, XC.sc, sField, h2, h3, sPart, h4, h5, g3, Option.map_some]⟩
theorem SOp.fldn {off m : Nat} {l r : List XC} {x : LX} (hx : xev e x = some (.agg l)) (hl : getN l off m = some r) : SOp P n (.fldn off m x) e h (.agg r) h := ⟨fun q call hw => by
  generalize ho : q.op = op' at hw
  cases hw with
  | fldn h1 h2 h3 h4 h5 =>
    obtain ⟨g1, g2⟩ := map_getN XC.sc hl
    simp only [Sim.step, ho, xev_ev h1 hx, XV.sv, XC.sc, sField, h2, h3, sPart, h4, h5, g2, Option.map_some]⟩
theorem SOp.ext {x : LX} {i : Nat} {l : List XV} {v : XV} (hx : xev e x = some (.tup l)) (hi : l[i]? = some v) : SOp P n (.ext x i) e h v h := ⟨fun q call hw => by
  generalize ho : q.op = op' at hw
  cases hw with
  | ext h1 =>
    have : (XV.svs l)[i]? = some v.sv := by rw [svs_map, List.getElem?_map, hi]; rfl
    simp only [Sim.step, ho, xev_ev h1 hx, XV.sv, this]⟩
theorem nz_of {z : Bool} {el : List PC} (h : el ≠ []) : (z && el.isEmpty) = false := by cases z <;> cases el <;> simp_all
theorem ne_of_get {α : Type} {l : List α} {i : Nat} {x : α} (h : l[i]? = some x) : l ≠ [] := by rintro rfl; simp at h
theorem lt_of_get {α : Type} {l : List α} {i : Nat} {x : α} (h : l[i]? = some x) : i < l.length := (List.getElem?_eq_some_iff.1 h).1
/-- An element's address in a slice that stays. -/
theorem SOp.ia {s : Nat} {x i : LX} {z : Bool} {el : List PC} {c : Option Nat} {k : IntKind} {m : Int} {u : PC} (hx : xev e x = some (.c (.p (.tz z s el c)))) (hi : xev e i = some (.c (.p (.int k m)))) (h0 : 0 ≤ m) (hu : el[m.toNat]? = some u) :
    SOp P n (.ia s x i) e h (.c (.p (.te s el m.toNat 0))) h := ⟨fun q call hw => by
  generalize ho : q.op = op' at hw
  cases hw with
  | ia h1 h2 h3 h4 =>
    have h5 := lt_of_get hu
    have h6 : 0 ≤ m ∧ m < (el.length : Int) ∧ True := ⟨h0, by omega, trivial⟩
    simp only [Sim.step, ho, xev_ev h1 hx, xev_ev h2 hi, XV.sv, XC.sc, PC.sc, nz_of (ne_of_get hu), cond_false, sIndexAddr, h3, idx, h4, if_pos h6, Option.map_some, Nat.add_zero]⟩
theorem SOp.iaO {s b o m' : Nat} {x i : LX} {c : Option Nat} {k : IntKind} {m : Int} (hx : xev e x = some (.c (.sl b o m' s c))) (hi : xev e i = some (.c (.p (.int k m)))) (h0 : 0 ≤ m) (h1 : m < (m' : Int)) :
    SOp P n (.ia s x i) e h (.c (.ptr b (o + m.toNat * s))) h := ⟨fun q call hw => by
  generalize ho : q.op = op' at hw
  cases hw with
  | ia h2 h3 h4 h5 =>
    have h6 : 0 ≤ m ∧ m < (m' : Int) ∧ True := ⟨h0, h1, trivial⟩
    simp only [Sim.step, ho, xev_ev h2 hx, xev_ev h3 hi, XV.sv, XC.sc, PC.sc, sIndexAddr, h4, idx, h5, if_pos h6, Option.map_some]⟩
theorem SOp.fae {off s i o : Nat} {el : List PC} {x : LX} (hx : xev e x = some (.c (.p (.te s el i o)))) : SOp P n (.fa off x) e h (.c (.p (.te s el i (o + off)))) h := ⟨fun q call hw => by
  generalize ho : q.op = op' at hw
  cases hw with
  | fa h1 h2 h3 h4 h5 => simp only [Sim.step, ho, xev_ev h1 hx, XV.sv, XC.sc, PC.sc, sFieldAddr, h2, h3, h4, if_neg h5, Option.map_some, Nat.add_assoc]⟩
theorem SOp.nilcke {s i o : Nat} {el : List PC} {x : LX} (hx : xev e x = some (.c (.p (.te s el i o)))) : SOp P n (.nilck x) e h (.c (.p (.te s el i o))) h := ⟨fun q call hw => by
  generalize ho : q.op = op at hw
  cases hw with
  | nilck h1 => simp only [Sim.step, ho, xev_ev h1 hx, XV.sv, XC.sc, PC.sc]⟩
theorem flatE_getN {el : List PC} {i s o m : Nat} {u : PC} {r : List PC} (hu : el[i]? = some u) (h1 : u.cells.all PC.one = true) (h2 : u.cells.length = s) (hr : getN u.cells o m = some r) :
    i * s + o + m ≤ (flatE s el).length ∧ ((flatE s el).drop (i * s + o)).take m = r.map PC.sc := by
  obtain ⟨g1, g2⟩ := getN_eq hr
  have hf : fit s u.flat = u.cells.map PC.sc := by rw [PC.flat_cells h1]; exact fit_eq (by simpa using h2)
  have hd : (flatE s el).drop (i * s) = u.cells.map PC.sc ++ flatE s (el.drop (i + 1)) := by
    rw [flatE_drop]
    obtain ⟨h3, rfl⟩ := List.getElem?_eq_some_iff.1 hu
    rw [List.drop_eq_getElem_cons h3]
    simp only [flatE, hf]
  have hi := lt_of_get hu
  have hlen : (flatE s el).length = i * s + (u.cells.length + (flatE s (el.drop (i + 1))).length) := by
    have := congrArg List.length hd
    simp only [List.length_drop, List.length_append, List.length_map] at this
    have h3 : i * s ≤ (flatE s el).length := by rw [flatE_len]; exact Nat.mul_le_mul_right _ (by omega)
    omega
  refine ⟨by omega, ?_⟩
  rw [← List.drop_drop, hd, List.drop_append_of_le_length (by simp; omega), List.take_append_of_le_length (by simp; omega), g2, List.map_take, List.map_drop]
theorem SOp.ld1e {x : LX} {s i o : Nat} {el : List PC} {u y : PC} (hx : xev e x = some (.c (.p (.te s el i o)))) (hu : el[i]? = some u) (h1 : u.cells.all PC.one = true) (h2 : u.cells.length = s) (hl : getN u.cells o 1 = some [y]) : SOp P n (.ld1 x) e h (.c (.p y)) h := ⟨fun q call hw => by
  generalize ho : q.op = op at hw
  cases hw with
  | ld1 h3 h4 h5 =>
    obtain ⟨s', h5⟩ := Option.isSome_iff_exists.1 h5
    obtain ⟨g1, g2⟩ := flatE_getN hu h1 h2 hl
    have g3 : (flatE s el)[i * s + o]? = some y.sc := by
      have := congrArg (·[0]?) g2
      simpa [List.getElem?_take, List.getElem?_drop] using this
    simp only [Sim.step, ho, xev_ev h3 hx, XV.sv, XC.sc, PC.sc, sLoadL, h4, h5, g3, Option.map_some]⟩
theorem SOp.ldne {x : LX} {s i o m : Nat} {el : List PC} {u : PC} {r : List PC} (hx : xev e x = some (.c (.p (.te s el i o)))) (hu : el[i]? = some u) (h1 : u.cells.all PC.one = true) (h2 : u.cells.length = s) (hl : getN u.cells o m = some r) : SOp P n (.ldn m x) e h (.agg (r.map XC.p)) h := ⟨fun q call hw => by
  generalize ho : q.op = op at hw
  cases hw with
  | ldn h3 h4 h5 =>
    obtain ⟨g1, g2⟩ := flatE_getN hu h1 h2 hl
    have g3 : (r.map XC.p).map XC.sc = r.map PC.sc := by rw [List.map_map]; rfl
    simp only [Sim.step, ho, xev_ev h3 hx, XV.sv, XC.sc, PC.sc, sLoadL, h4, h5, if_pos g1, g2, g3, Option.map_some]⟩
/-- From elements of one's own. -/
theorem SOp.ld1O {x : LX} {b o s i : Nat} {el : List PC} {u y : PC} (hx : xev e x = some (.c (.ptr b (i * s + o)))) (hb : h.get b = some (.els s el)) (hu : el[i]? = some u) (h1 : u.cells.all PC.one = true) (h2 : u.cells.length = s) (hl : getN u.cells o 1 = some [y]) : SOp P n (.ld1 x) e h (.c (.p y)) h := ⟨fun q call hw => by
  generalize ho : q.op = op at hw
  cases hw with
  | ld1 h3 h4 h5 =>
    obtain ⟨s', h5⟩ := Option.isSome_iff_exists.1 h5
    obtain ⟨g1, g2⟩ := flatE_getN hu h1 h2 hl
    simp only [Sim.step, ho, xev_ev h3 hx, XV.sv, XC.sc, sLoad, h4, h5, SH.read, get_els hb, if_pos g1, g2, List.map_cons, List.map_nil, Option.map_some]⟩
theorem SOp.ldnO {x : LX} {b o s i m : Nat} {el : List PC} {u : PC} {r : List PC} (hx : xev e x = some (.c (.ptr b (i * s + o)))) (hb : h.get b = some (.els s el)) (hu : el[i]? = some u) (h1 : u.cells.all PC.one = true) (h2 : u.cells.length = s) (hl : getN u.cells o m = some r) : SOp P n (.ldn m x) e h (.agg (r.map XC.p)) h := ⟨fun q call hw => by
  generalize ho : q.op = op at hw
  cases hw with
  | ldn h3 h4 h5 =>
    obtain ⟨g1, g2⟩ := flatE_getN hu h1 h2 hl
    have g3 : (r.map XC.p).map XC.sc = r.map PC.sc := by rw [List.map_map]; rfl
    simp only [Sim.step, ho, xev_ev h3 hx, XV.sv, XC.sc, sLoad, h4, h5, SH.read, get_els hb, if_pos g1, g2, g3, Option.map_some]⟩
end ops
end Go.Proofs.Ytgaaffanoegbhaa.Sym
