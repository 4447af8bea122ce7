/- Values with names for what stays; operations in which every type is resolved. No program in sight. -/
import Derived.Test.YtgaaffanoegbhaaSimE
namespace Go.Proofs.Ytgaaffanoegbhaa.Sym
open Go Go.RowKit Go.Proofs.Ytgaaffanoegbhaa.Sim
set_option linter.unusedSimpArgs false
set_option linter.unusedVariables false

/-- What holds no address of one's own. -/
inductive PC where
  | bool (b : Bool)
  /-- A flag that is not decided. -/
  | bs (b : Bool)
  | int (k : IntKind) (n : Int)
  | str (l : List Nat)
  | nilp
  | nomap
  | agg (l : List PC)
  /-- A slice that nobody writes any more; nil if z and empty. -/
  | tz (z : Bool) (s : Nat) (el : List PC) (c : Option Nat)
  /-- An address in cells that nobody writes any more. -/
  | tp (l : List PC) (o : Nat)
  /-- The address of cell o of element i. -/
  | te (s : Nat) (el : List PC) (i o : Nat)
/-- Just s cells. -/
def fit (s : Nat) (l : List SC) : List SC := (l ++ List.replicate s (SC.bool false)).take s
theorem fit_len (s : Nat) (l : List SC) : (fit s l).length = s := by simp [fit]
theorem fit_eq {s : Nat} {l : List SC} (h : l.length = s) : fit s l = l := by simp [fit, ← h]
mutual
def PC.flat : PC → List SC
  | .bool b => [.bool b]
  | .bs b => [.bool b]
  | .int k n => [.int k n]
  | .str l => [.str l]
  | .nilp => [.nilp]
  | .nomap => [.mp none]
  | .agg l => flats l
  | .tz z s el c => [bif z && el.isEmpty then .nils else .fz el.length s (flatE s el) c]
  | .tp l o => [.fp (flats l) o]
  | .te s el i o => [.fp (flatE s el) (i * s + o)]
def flats : List PC → List SC
  | [] => []
  | x :: l => x.flat ++ flats l
def flatE (s : Nat) : List PC → List SC
  | [] => []
  | x :: l => fit s x.flat ++ flatE s l
end
def PC.sc : PC → SC
  | .bool b => .bool b
  | .bs b => .bool b
  | .int k n => .int k n
  | .str l => .str l
  | .nilp => .nilp
  | .nomap => .mp none
  | .agg _ => .nilp
  | .tz z s el c => bif z && el.isEmpty then .nils else .fz el.length s (flatE s el) c
  | .tp l o => .fp (flats l) o
  | .te s el i o => .fp (flatE s el) (i * s + o)
def PC.one : PC → Bool
  | .agg _ => false
  | _ => true
def PC.cells : PC → List PC
  | .agg l => l
  | x => [x]
theorem PC.flat_one {x : PC} (h : x.one = true) : x.flat = [x.sc] := by
  cases x <;> first | rfl | (simp [PC.one] at h) | simp only [PC.flat, PC.sc]
theorem flats_ones : ∀ {l : List PC}, l.all PC.one = true → flats l = l.map PC.sc
  | [], _ => by simp [flats]
  | x :: l, h => by
    simp only [List.all_cons, Bool.and_eq_true] at h
    simp only [flats, PC.flat_one h.1, flats_ones h.2, List.map_cons, List.singleton_append]
theorem PC.flat_cells {x : PC} (h : x.cells.all PC.one = true) : x.flat = x.cells.map PC.sc := by
  cases x with
  | agg l => simp only [PC.flat, PC.cells] at h ⊢; exact flats_ones h
  | _ => exact PC.flat_one rfl
theorem flatE_len (s : Nat) : ∀ l : List PC, (flatE s l).length = l.length * s
  | [] => by simp [flatE]
  | x :: l => by simp [flatE, fit_len, flatE_len s l, Nat.add_mul, Nat.add_comm]
theorem flatE_drop (s : Nat) : ∀ (l : List PC) (k : Nat), (flatE s l).drop (k * s) = flatE s (l.drop k)
  | l, 0 => by simp
  | [], k + 1 => by simp [flatE]
  | x :: l, k + 1 => by
    simp only [flatE, List.drop_succ_cons]
    rw [show (k + 1) * s = (fit s x.flat).length + k * s by rw [fit_len, Nat.add_mul]; omega, List.drop_length_add_append, flatE_drop s l k]
theorem flatE_take (s : Nat) : ∀ (l : List PC) (k : Nat), (flatE s l).take (k * s) = flatE s (l.take k)
  | l, 0 => by simp [flatE]
  | [], k + 1 => by simp [flatE]
  | x :: l, k + 1 => by
    simp only [flatE, List.take_succ_cons]
    rw [show (k + 1) * s = (fit s x.flat).length + k * s by rw [fit_len, Nat.add_mul]; omega, List.take_length_add_append, flatE_take s l k]
theorem flatE_app (s : Nat) : ∀ (l r : List PC), flatE s (l ++ r) = flatE s l ++ flatE s r
  | [], r => by simp [flatE]
  | x :: l, r => by simp [flatE, flatE_app s l r]
theorem flatE_get {s : Nat} {l : List PC} {k : Nat} {x : PC} (h : l[k]? = some x) (hx : x.cells.all PC.one = true) (hs : x.cells.length = s) {o : Nat} (ho : o < s) : (flatE s l)[k * s + o]? = (x.cells[o]?).map PC.sc := by
  rw [← List.getElem?_drop, flatE_drop]
  have : l.drop k = x :: l.drop (k + 1) := by
    obtain ⟨h1, rfl⟩ := List.getElem?_eq_some_iff.1 h
    exact List.drop_eq_getElem_cons h1
  rw [this]
  simp only [flatE]
  have hf : fit s x.flat = x.cells.map PC.sc := by rw [PC.flat_cells hx]; exact fit_eq (by simpa using hs)
  rw [hf, List.getElem?_append_left (by simpa [hs] using ho), List.getElem?_map]

/-- A cell. -/
inductive XC where
  | p (x : PC)
  | ptr (b o : Nat)
  | sl (b o n s : Nat) (c : Option Nat)
  | mp (b : Nat)
  | cl (f : FuncId) (a b : List XC)
  | ifc (t : TypeId) (x : XC)
  /-- A slice that is appended to from nil on. -/
  | acc (b s : Nat) (el : List PC)
mutual
def XC.sc : XC → SC
  | .p x => x.sc
  | .ptr b o => .ptr b o
  | .sl b o n s c => .sl b o n s c
  | .mp b => .mp (some b)
  | .cl f a b => .cl f (XC.scs a) (XC.scs b)
  | .ifc t x => .ifc t x.sc
  | .acc b s el => bif el.isEmpty then .nils else .sl b 0 el.length s none
def XC.scs : List XC → List SC
  | [] => []
  | x :: l => x.sc :: XC.scs l
end
theorem scs_map : ∀ l : List XC, XC.scs l = l.map XC.sc
  | [] => by simp [XC.scs]
  | x :: l => by simp [XC.scs, scs_map l]
inductive XV where
  | c (x : XC)
  | agg (l : List XC)
  | tup (l : List XV)
mutual
def XV.sv : XV → SV
  | .c x => .c x.sc
  | .agg l => .agg (l.map XC.sc)
  | .tup l => .tup (XV.svs l)
def XV.svs : List XV → List SV
  | [] => []
  | x :: l => x.sv :: XV.svs l
end
theorem svs_map : ∀ l : List XV, XV.svs l = l.map XV.sv
  | [] => by simp [XV.svs]
  | x :: l => by simp [XV.svs, svs_map l]
def XV.cells : XV → Option (List XC)
  | .c x => some [x]
  | .agg l => some l
  | .tup _ => none
theorem XV.cells_sv {x : XV} {l : List XC} (h : x.cells = some l) : x.sv.cells = some (l.map XC.sc) := by
  cases x with
  | c x => simp only [XV.cells, Option.some.injEq] at h; subst h; simp [XV.sv, SV.cells]
  | agg r => simp only [XV.cells, Option.some.injEq] at h; subst h; simp [XV.sv, SV.cells]
  | tup r => cases h
inductive XO where
  | row (l : List XC) (own : Bool)
  /-- A row of one's own: elements of s cells each that hold no address of one's own. -/
  | els (s : Nat) (el : List PC)
  | map (es : List (Nat × XC × XV)) (clock : Nat)
  | iter (m : Option Nat) (since : Nat) (seen : List Nat) (last : Nat)
def XO.so : XO → SO
  | .row l own => .row (l.map XC.sc) own
  | .els s el => .row (flatE s el) true
  | .map es clock => .map (es.map fun e => (e.1, e.2.1.sc, e.2.2.sv)) clock
  | .iter m since seen last => .iter m since seen last
/-- The first one of a name. -/
def look {α : Type} : List (Nat × α) → Nat → Option α
  | [], _ => none
  | (j, x) :: r, i => bif Nat.beq j i then some x else look r i
theorem look_cons {α : Type} (p : Nat × α) (r : List (Nat × α)) (i : Nat) : look (p :: r) i = bif Nat.beq p.1 i then some p.2 else look r i := by cases p; rfl
structure HS where
  l : List (Nat × Option XO)
  next : Nat
def HS.get (h : HS) (b : Nat) : Option XO :=
  match look h.l b with
  | some (some o) => some o
  | _ => none
def HS.put (h : HS) (b : Nat) (o : Option XO) : HS := ⟨(b, o) :: h.l, h.next⟩
def HS.new (h : HS) (l : List XC) : HS := ⟨(h.next, some (.row l true)) :: h.l, h.next + 1⟩
def HS.newO (h : HS) (o : XO) : HS := ⟨(h.next, some o) :: h.l, h.next + 1⟩
def HS.t : List (Nat × Option XO) → T SO
  | [] => .e
  | p :: r => (HS.t r).put p.1 (p.2.map XO.so)
def HS.sh (h : HS) : SH := ⟨HS.t h.l, h.next⟩
theorem HS.get_sh (h : HS) (b : Nat) : h.sh.get b = (h.get b).map XO.so := by
  obtain ⟨l, n⟩ := h
  show (HS.t l).get b = _
  induction l with
  | nil => simp [HS.t, HS.get, look]
  | cons p r ih =>
    simp only [HS.t, T.get_put]
    simp only [HS.get, look_cons] at ih ⊢
    by_cases hb : b = p.1
    · subst hb
      simp only [if_true, Nat.beq_refl, cond_true]
      cases p.2 <;> rfl
    · rw [if_neg hb, show Nat.beq p.1 b = false by rw [Bool.eq_false_iff]; intro e; exact hb (Nat.eq_of_beq_eq_true e).symm]
      exact ih
abbrev Env := List (Nat × XV)
def toT : Env → T SV
  | [] => .e
  | p :: r => (toT r).put p.1 (some p.2.sv)
def toSF (n : Nat) (e : Env) : SF := ⟨toT e, n⟩
theorem get_toSF (n : Nat) (e : Env) (i : Nat) : (toSF n e).get i = (look e i).map XV.sv := by
  show (toT e).get i = _
  induction e with
  | nil => simp [toT, look]
  | cons p r ih =>
    simp only [toT, T.get_put, look_cons]
    by_cases hb : i = p.1
    · subst hb; simp
    · rw [if_neg hb, show Nat.beq p.1 i = false by rw [Bool.eq_false_iff]; intro e; exact hb (Nat.eq_of_beq_eq_true e).symm]
      exact ih
/-- A slot gets a value. -/
def push (d : Option Nat) (v : XV) (e : Env) : Env :=
  match d with
  | some d => (d, v) :: e
  | none => e
def dOK (n : Nat) : Option Nat → Bool
  | some d => Nat.blt d n
  | none => true
theorem push_sf {n : Nat} {d : Option Nat} (h : dOK n d = true) (v : XV) (e : Env) : (toSF n e).put d v.sv = toSF n (push d v e) := by
  cases d with
  | none => rfl
  | some d =>
    simp only [dOK, Nat.blt_eq] at h
    show (if d < n then _ else _ : SF) = _
    rw [if_pos h]; rfl

/-! Operands. -/
inductive LX where
  | t (i : Nat)
  | k (v : XV)
def xofC : Value → Option XC
  | .bool b => some (.p (.bool b))
  | .int k n => some (.p (.int k n))
  | .string s => some (.p (.str (s.data.toList.map UInt8.toNat)))
  | .pointer none => some (.p .nilp)
  | .slice none 0 0 => some (.p (.tz true 0 [] none))
  | .map none => some (.p .nomap)
  | _ => none
def xofCs : List Value → Option (List XC)
  | [] => some []
  | v :: l => match xofC v, xofCs l with
    | some x, some r => some (x :: r)
    | _, _ => none
def xofV : Value → Option XV
  | .agg cs => match xofCs cs.toList with
    | some l => some (.agg l)
    | none => none
  | .tuple cs => match cs.toList with
    | [] => some (.tup [])
    | _ => none
  | v => match xofC v with
    | some x => some (.c x)
    | none => none
theorem xofC_sc {v : Value} {x : XC} (h : xofC v = some x) : ofC v = some x.sc := by
  unfold xofC at h
  split at h <;> first | cases h; done | skip
  all_goals
    simp only [Option.some.injEq] at h
    subst h
    first | rfl | simp [ofC, XC.sc, PC.sc]
theorem xofCs_sc : ∀ {l : List Value} {r : List XC}, xofCs l = some r → ofCs l = some (r.map XC.sc)
  | [], r, h => by simp only [xofCs, Option.some.injEq] at h; subst h; rfl
  | v :: l, r, h => by
    simp only [xofCs] at h
    split at h
    · rename_i x q h1 h2
      simp only [Option.some.injEq] at h
      subst h
      simp only [ofCs, xofC_sc h1, xofCs_sc h2, List.map_cons]
    · cases h
theorem xofV_sv {v : Value} {x : XV} (h : xofV v = some x) : ofV v = some x.sv := by
  unfold xofV at h
  split at h
  · split at h
    · rename_i cs l hl
      simp only [Option.some.injEq] at h
      subst h
      simp only [ofV, xofCs_sc hl, Option.map_some, XV.sv]
    · cases h
  · split at h
    · rename_i hc
      simp only [Option.some.injEq] at h
      subst h
      simp [ofV, XV.sv, XV.svs, ← Array.length_toList, hc]
    · cases h
  · split at h
    · rename_i v0 hn1 hn2 _ y hx
      simp only [Option.some.injEq] at h
      subst h
      have h1 := xofC_sc hx
      unfold ofV
      split
      · rename_i cs; exact absurd rfl (hn1 cs)
      · rename_i cs; exact absurd rfl (hn2 cs)
      · simp only [h1, Option.map_some, XV.sv]
    · cases h
def lowX : Operand → Option LX
  | .tmp i => some (.t i)
  | .const v => match xofV v with
    | some x => some (.k x)
    | none => none
  | _ => none
def xev (e : Env) : LX → Option XV
  | .t i => look e i
  | .k v => some v
theorem xev_ev {n : Nat} {e : Env} {o : Operand} {x : LX} {v : XV} (h : lowX o = some x) (hv : xev e x = some v) : ev (toSF n e) o = some v.sv := by
  unfold lowX at h
  split at h
  · simp only [Option.some.injEq] at h
    subst h
    simp only [xev] at hv
    simp only [ev, get_toSF, hv, Option.map_some]
  · split at h
    · rename_i u x' hx
      simp only [Option.some.injEq] at h
      subst h
      simp only [xev, Option.some.injEq] at hv
      subst hv
      simp only [ev, xofV_sv hx]
    · cases h
  · cases h
def lowXs : List Operand → Option (List LX)
  | [] => some []
  | o :: l => match lowX o, lowXs l with
    | some x, some r => some (x :: r)
    | _, _ => none
def xevs (e : Env) : List LX → Option (List XV)
  | [] => some []
  | x :: l => match xev e x, xevs e l with
    | some v, some r => some (v :: r)
    | _, _ => none
theorem xevs_evs {n : Nat} {e : Env} : ∀ {l : List Operand} {r : List LX} {vs : List XV}, lowXs l = some r → xevs e r = some vs → evs (toSF n e) l = some (vs.map XV.sv)
  | [], r, vs, h, hv => by
    simp only [lowXs, Option.some.injEq] at h; subst h
    simp only [xevs, Option.some.injEq] at hv; subst hv; rfl
  | o :: l, r, vs, h, hv => by
    simp only [lowXs] at h
    split at h
    · rename_i x q h1 h2
      simp only [Option.some.injEq] at h
      subst h
      simp only [xevs] at hv
      split at hv
      · rename_i v u g1 g2
        simp only [Option.some.injEq] at hv
        subst hv
        simp only [evs, xev_ev h1 g1, xevs_evs h2 g2, List.map_cons]
      · cases hv
    · cases h
end Go.Proofs.Ytgaaffanoegbhaa.Sym
