/- A plain machine: the same code over memory of its own kind, without any choice. No program in sight. -/
import Derived.WalkKit
namespace Go.Proofs.Yteegdhfekemhmaa.Sim
open Go

/-- A finite map from numbers. -/
inductive T (α : Type) where
  | e
  | n (v : Option α) (l r : T α)
namespace T
variable {α : Type}
def get : T α → Nat → Option α
  | .e, _ => none
  | .n v l r, k => if k = 0 then v else if k % 2 = 1 then l.get (k / 2) else r.get (k / 2 - 1)
def putF : Nat → T α → Nat → Option α → T α
  | 0, t, _, _ => t
  | f + 1, t, k, x =>
    match t with
    | .e => if k = 0 then .n x .e .e else if k % 2 = 1 then .n none (putF f .e (k / 2) x) .e else .n none .e (putF f .e (k / 2 - 1) x)
    | .n v l r => if k = 0 then .n x l r else if k % 2 = 1 then .n v (putF f l (k / 2) x) r else .n v l (putF f r (k / 2 - 1) x)
def put (t : T α) (k : Nat) (x : Option α) : T α := putF (k + 1) t k x
end T

/-- What one cell holds. -/
inductive SC where
  | bool (b : Bool)
  | int (k : IntKind) (n : Int)
  | str (l : List Nat)
  | nilp
  | ptr (b o : Nat)
  | nils
  | em
  | sl (b o n s : Nat) (c : Option Nat)
  | mp (b : Option Nat)
  deriving DecidableEq
inductive SV where
  | c (x : SC)
  | agg (l : List SC)
  | tup (l : List SV)
def SV.cells : SV → Option (List SC)
  | .c x => some [x]
  | .agg l => some l
  | _ => none
/-- A block: a row of cells (own: nobody else knows it), or a map. -/
inductive SO where
  | row (cells : List SC) (own : Bool)
  | map (es : List (SC × SV))
structure SH where
  m : T SO
  next : Nat
structure SF where
  t : T SV
  n : Nat

def ofC : Value → Option SC
  | .bool b => some (.bool b)
  | .int k n => some (.int k n)
  | .string s => some (.str (s.data.toList.map UInt8.toNat))
  | .pointer none => some .nilp
  | .slice none 0 0 => some .nils
  | .map none => some (.mp none)
  | _ => none
def ofCs : List Value → Option (List SC)
  | [] => some []
  | v :: l => match ofC v, ofCs l with
    | some x, some r => some (x :: r)
    | _, _ => none
def ofV : Value → Option SV
  | .agg cs => (ofCs cs.toList).map .agg
  | .tuple cs => if cs.size = 0 then some (.tup []) else none
  | v => (ofC v).map .c

def SF.get (t : SF) (i : Nat) : Option SV := t.t.get i
def SF.put (t : SF) (d : Option Nat) (v : SV) : SF :=
  match d with
  | some d => if d < t.n then ⟨t.t.put d (some v), t.n⟩ else t
  | none => t
def ev (t : SF) : Operand → Option SV
  | .tmp i => t.get i
  | .const v => ofV v
  | _ => none
def evs (t : SF) : List Operand → Option (List SV)
  | [] => some []
  | x :: l => match ev t x, evs t l with
    | some v, some r => some (v :: r)
    | _, _ => none
def SH.get (h : SH) (b : Nat) : Option SO := h.m.get b
def SH.put (h : SH) (b : Nat) (o : Option SO) : SH := ⟨h.m.put b o, h.next⟩
/-- A new block of one's own. -/
def SH.new (h : SH) (cells : List SC) : SH := ⟨h.m.put h.next (some (.row cells true)), h.next + 1⟩

def sBytesLess : List Nat → List Nat → Bool
  | _, [] => false
  | [], _ :: _ => true
  | a :: x, b :: y => Nat.blt a b || (Nat.beq a b && sBytesLess x y)
def eqL : List Nat → List Nat → Bool
  | [], [] => true
  | a :: x, b :: y => Nat.beq a b && eqL x y
  | _, _ => false
def sCmp (op : BinOp) (x y : Int) : Option SC :=
  match op with
  | .eql => some (.bool (decide (x = y)))
  | .neq => some (.bool (!decide (x = y)))
  | .lss => some (.bool (decide (x < y)))
  | .leq => some (.bool (decide (x ≤ y)))
  | .gtr => some (.bool (decide (y < x)))
  | .geq => some (.bool (decide (y ≤ x)))
  | _ => none
def sInt (op : BinOp) (k : IntKind) (x y : Int) : Option SC :=
  match op with
  | .add => some (.int k (k.wrap (x + y)))
  | .sub => some (.int k (k.wrap (x - y)))
  | .mul => some (.int k (k.wrap (x * y)))
  | .quo => if y = 0 then none else some (.int k (k.wrap (x.tdiv y)))
  | .rem => if y = 0 then none else some (.int k (x.tmod y))
  | .and | .or | .xor | .andNot => some (.int k (bits op k x y))
  | op => sCmp op x y
def sStr (op : BinOp) (x y : List Nat) : Option SC :=
  match op with
  | .add => if x.length + y.length ≤ 9223372036854775807 then some (.str (x ++ y)) else none
  | .eql => some (.bool (eqL x y))
  | .neq => some (.bool (!eqL x y))
  | .lss => some (.bool (sBytesLess x y))
  | .leq => some (.bool (sBytesLess x y || eqL x y))
  | .gtr => some (.bool (!(sBytesLess x y || eqL x y)))
  | .geq => some (.bool (!sBytesLess x y))
  | _ => none
/-- x == y, of a pointer or a slice and nil, of flags. -/
def sNil : TypeDesc → SC → SC → Option Bool
  | .pointer _, .nilp, .nilp => some true
  | .pointer _, .nilp, .ptr .. => some false
  | .pointer _, .ptr .., .nilp => some false
  | .slice _, .nils, .nils => some true
  | .slice _, .nils, .em => some false
  | .slice _, .nils, .sl .. => some false
  | .slice _, .em, .nils => some false
  | .slice _, .sl .., .nils => some false
  | .map _ _, .mp none, .mp none => some true
  | .map _ _, .mp none, .mp (some _) => some false
  | .map _ _, .mp (some _), .mp none => some false
  | .bool, .bool a, .bool b => some (a == b)
  | _, _, _ => none
def sBin (d : Option TypeDesc) (op : BinOp) (x y : SC) : Option SC :=
  match x, y with
  | .int k a, .int k' b =>
    match op with
    | .shl => if b < 0 then none else some (.int k (k.wrap (a * 2 ^ (min b.toNat k.bits))))
    | .shr => if b < 0 then none else some (.int k (a.fdiv (2 ^ (min b.toNat k.bits))))
    | op => if k = k' then sInt op k a b else none
  | .str a, .str b => sStr op a b
  | x, y => match d with
    | some d => match op with
      | .eql => (sNil d x y).map .bool
      | .neq => (sNil d x y).map fun b => .bool (!b)
      | _ => none
    | none => none
def sUn (op : UnOp) (x : SC) : Option SC :=
  match op, x with
  | .neg, .int k n => some (.int k (k.wrap (0 - n)))
  | .xor, .int k n => some (.int k (bits .xor k (if k.signed then -1 else k.max) n))
  | .not, .bool b => some (.bool !b)
  | _, _ => none

section
variable (P : Program)
def isAg (t : TypeId) : Option Bool :=
  match P.underlying t with
  | some (.struct _) => some true
  | some (.array _ _) => some true
  | some _ => some false
  | none => none
def szOf (t : TypeId) : Option Nat :=
  match P.info? t with
  | some i => some i.size
  | none => none
def zeroOf (t : TypeId) : Option (List SC) :=
  match P.info? t with
  | some i => match i.zero with
    | some v => match ofV v with
      | some s => s.cells
      | none => none
    | none => none
  | none => none
def elemOf' (t : TypeId) : Option TypeId :=
  match P.underlying t with
  | some (.slice e) => some e
  | _ => none
def setRange (cs : List SC) (o : Nat) (vs : List SC) : List SC := cs.take o ++ vs ++ cs.drop (o + vs.length)
/-- Reads n cells. -/
def SH.read (h : SH) (b o n : Nat) : Option (List SC) :=
  match h.get b with
  | some (.row cs _) => if o + n ≤ cs.length then some ((cs.drop o).take n) else none
  | _ => none
def SH.write (h : SH) (b o : Nat) (vs : List SC) : Option SH :=
  match h.get b with
  | some (.row cs true) => if o + vs.length ≤ cs.length then some (h.put b (some (.row (setRange cs o vs) true))) else none
  | _ => none
def sLoad (t : TypeId) (h : SH) (b o : Nat) : Option SV :=
  match isAg P t, szOf P t with
  | some true, some n => (h.read b o n).map .agg
  | some false, some _ => match h.read b o 1 with
    | some [x] => some (.c x)
    | _ => none
  | _, _ => none
def partsIn (place : Nat → Option (Nat × Nat)) (cells : List SC) : List (Nat × SV) → Option (List SC)
  | [] => some cells
  | (i, v) :: rest =>
    match place i, v.cells with
    | some (off, size), some cs =>
      if cs.length = size ∧ off + size ≤ cells.length then partsIn place (setRange cells off cs) rest else none
    | _, _ => none
def evps (t : SF) : List (Nat × Operand) → Option (List (Nat × SV))
  | [] => some []
  | (i, x) :: l => match ev t x, evps t l with
    | some v, some r => some ((i, v) :: r)
    | _, _ => none
def rep (z : List SC) : Nat → List SC
  | 0 => []
  | n + 1 => z ++ rep z n
def sBuild (ty : TypeId) (parts : List (Nat × SV)) : Option SV :=
  match P.underlying ty, zeroOf P ty with
  | some (.struct fs), some z => match fs.toList.mapM (fun f => (P.info? f.type).map fun i => (f.offset, i.size)) with
    | some places => (partsIn (places.toArray[·]?) z parts).map .agg
    | none => none
  | some (.array _ e), some z => match szOf P e with
    | some s => (partsIn (fun i => some (i * s, s)) z parts).map .agg
    | none => none
  | _, _ => none
def sBuildSlice (ty : TypeId) (n : Nat) (parts : List (Nat × SV)) (h : SH) : Option (SV × SH) :=
  match elemOf' P ty with
  | some e => match szOf P e, zeroOf P e with
    | some s, some z =>
      if n * s ≤ 16777216 ∧ z.length = s ∧ 0 < s then
        match partsIn (fun i => some (i * s, s)) (rep z n) parts with
        | some cs => some (.c (.sl h.next 0 n s (some n)), h.new cs)
        | none => none
      else none
    | _, _ => none
  | none => none
def idx : SV → Option Int
  | .c (.int _ n) => some n
  | _ => none
def sIndexAddr (ty : TypeId) (x i : SV) : Option SV :=
  match P.underlying ty, x, idx i with
  | some (.slice e), .c (.sl b o n s' _), some i => match szOf P e with
    | some s => if 0 ≤ i ∧ i < n ∧ s = s' then some (.c (.ptr b (o + i.toNat * s))) else none
    | none => none
  | some (.array n e), .c (.ptr b o), some i => match szOf P e with
    | some s => if 0 ≤ i ∧ i < n then some (.c (.ptr b (o + i.toNat * s))) else none
    | none => none
  | _, _, _ => none
def sIndex (ty : TypeId) (x i : SV) : Option SV :=
  match P.underlying ty, x, idx i with
  | some .string, .c (.str l), some i => if 0 ≤ i then match l[i.toNat]? with
    | some b => some (.c (.int .u8 b))
    | none => none
    else none
  | some (.array n e), .agg cs, some i => match szOf P e, isAg P e with
    | some s, some true => if 0 ≤ i ∧ i < n then some (.agg ((cs.drop (i.toNat * s)).take s)) else none
    | some s, some false => if 0 ≤ i ∧ i < n then match cs[i.toNat * s]? with
      | some x => some (.c x)
      | none => none
      else none
    | _, _ => none
  | _, _, _ => none
def sFieldAddr (ty : TypeId) (x : SV) (f : Nat) : Option SV :=
  match P.underlying ty, x with
  | some (.struct fs), .c (.ptr b o) => match fs[f]? with
    | some f => match szOf P f.type with
      | some s => if s = 0 then none else some (.c (.ptr b (o + f.offset)))
      | none => none
    | none => none
  | _, _ => none
def sPart (ty : TypeId) (cs : List SC) (o : Nat) : Option SV :=
  match isAg P ty, szOf P ty with
  | some true, some s => some (.agg ((cs.drop o).take s))
  | some false, some _ => match cs[o]? with
    | some x => some (.c x)
    | none => none
  | _, _ => none
def sField (ty : TypeId) (x : SV) (f : Nat) : Option SV :=
  match P.underlying ty, x with
  | some (.struct fs), .agg cs => match fs[f]? with
    | some f => sPart P f.type cs f.offset
    | none => none
  | _, _ => none
/-- The bounds of x[l:h:m]; absent: none. -/
def bnd (t : SF) (x : Option Operand) (d : Nat) : Option Nat :=
  match x with
  | none => some d
  | some o => match ev t o with
    | some (.c (.int _ n)) => if 0 ≤ n then some n.toNat else none
    | _ => none
def bndM (t : SF) (x : Option Operand) : Option (Option Nat) :=
  match x with
  | none => some none
  | some o => match ev t o with
    | some (.c (.int _ n)) => if 0 ≤ n then some (some n.toNat) else none
    | _ => none
/-- Does a block reach so far? -/
def reach (h : SH) (b k : Nat) : Bool :=
  match h.get b with
  | some (.row cs _) => Nat.ble k cs.length
  | _ => false
def sSlice (t : SF) (h : SH) (ty : TypeId) (x : SV) (lo hi mx : Option Operand) : Option SV :=
  match P.underlying ty, x with
  | some .string, .c (.str l) => match bnd t lo 0, bnd t hi l.length, bndM t mx with
    | some a, some b, some none => if a ≤ b ∧ b ≤ l.length then some (.c (.str ((l.take b).drop a))) else none
    | _, _, _ => none
  | some (.slice e), .c (.sl b o n s' c) => match szOf P e, bnd t lo 0, bnd t hi n, bndM t mx with
    | some s, some l, some r, some m =>
      if l ≤ r ∧ s = s' ∧ 0 < s ∧ (m.isSome = true → hi.isSome = true) then
        match c, m with
        | some c, none => if r ≤ c then some (.c (.sl b (o + l * s) (r - l) s (some (c - l)))) else none
        | some c, some m => if r ≤ m ∧ m ≤ c then some (.c (.sl b (o + l * s) (r - l) s (some (m - l)))) else none
        | none, none => if r ≤ n ∨ reach h b (o + r * s) = true then some (.c (.sl b (o + l * s) (r - l) s none)) else none
        | none, some m => if r ≤ m ∧ (m ≤ n ∨ reach h b (o + m * s) = true) then some (.c (.sl b (o + l * s) (r - l) s (some (m - l)))) else none
      else none
    | _, _, _, _ => none
  | some (.slice e), .c .nils => match szOf P e, bnd t lo 0, bnd t hi 0, bndM t mx with
    | some _, some 0, some 0, some none => some (.c .nils)
    | some _, some 0, some 0, some (some 0) => if hi.isSome = true then some (.c .nils) else none
    | _, _, _, _ => none
  | some (.slice e), .c .em => match szOf P e, bnd t lo 0, bnd t hi 0, bndM t mx with
    | some _, some 0, some 0, some none => some (.c .em)
    | _, _, _, _ => none
  | _, _ => none
/-- The cells of what is appended or copied: n elements of size s. -/
def elems (h : SH) (s : Nat) : SV → Option (Nat × List SC)
  | .c .nils => some (0, [])
  | .c .em => some (0, [])
  | .c (.sl b o n s' _) => if s = s' then (h.read b o (n * s)).map fun l => (n, l) else none
  | .c (.str l) => if s = 1 then some (l.length, l.map fun (b : Nat) => SC.int .u8 (b : Int)) else none
  | _ => none
/-- Is there room for so many, for sure? -/
def roomB (c : Option Nat) (k o s len : Nat) : Bool :=
  match c with
  | some c => Nat.ble k c
  | none => Nat.ble (o + k * s) len
def sAppend (ty : TypeId) (h : SH) (x y : SV) : Option (SV × SH) :=
  match elemOf' P ty with
  | some e => match P.info? e, zeroOf P e with
    | some i, some z =>
      if z.length ≠ i.size then none else
      match elems h i.size y with
      | some (k, new) =>
        match x with
        | .c .nils => if k = 0 then some (x, h) else
          if k * i.bytes ≤ 140737488355328 ∧ 0 < i.bytes ∧ 0 < i.size then some (.c (.sl h.next 0 k i.size none), h.new new) else none
        | .c .em => if k = 0 then some (x, h) else none
        | .c (.sl b o n s c) => if k = 0 then some (x, h) else
          if (n + k) * i.bytes ≤ 140737488355328 ∧ 0 < i.bytes ∧ 0 < i.size ∧ s = i.size then
            match h.get b with
            | some (.row cs own) =>
              if roomB c (n + k) o s cs.length = true then
                (h.write b (o + n * s) new).map fun h => (.c (.sl b o (n + k) s c), h)
              else if o + n * s ≤ cs.length ∧ (c.isSome = true ∨ own = true) then
                some (.c (.sl h.next 0 (n + k) s none), (if c.isSome then h else h.put b none).new ((cs.drop o).take (n * s) ++ new))
              else none
            | _ => none
          else none
        | _ => none
      | none => none
    | _, _ => none
  | none => none
def sConvert (src dst : TypeId) (h : SH) (x : SV) : Option (SV × SH) :=
  match P.underlying src, P.underlying dst, x with
  | some (.int _), some (.int k), .c (.int _ n) => some (.c (.int k (k.wrap n)), h)
  | some .string, some .string, .c (.str l) => some (.c (.str l), h)
  | some .string, some (.slice e), .c (.str l) => match P.underlying e with
    | some (.int .u8) => if l.length ≤ 140737488355328 then some (.c (.sl h.next 0 l.length 1 none), h.new (l.map fun (b : Nat) => SC.int .u8 (b : Int))) else none
    | _ => none
  | some (.slice _), some (.slice e), .c (.sl b o n s c) => match P.underlying e, h.get b with
    | some (.int .u8), some (.row _ true) => if src = dst ∧ 0 < n then some (.c (.sl b o n s c), h) else none
    | _, _ => none
  | some (.slice e), some .string, x => match P.underlying e with
    | some (.int .u8) => match x with
      | .c .nils => some (.c (.str []), h)
      | .c .em => some (.c (.str []), h)
      | .c (.sl b o n s _) => if s ≠ 1 then none else match h.read b o n with
        | some cs => match cs.mapM (fun | .int .u8 n => if 0 ≤ n ∧ n < 256 then some n.toNat else none | _ => none) with
          | some l => some (.c (.str l), h)
          | none => none
        | none => none
      | _ => none
    | _ => none
  | _, _, _ => none
def sMake (ty : TypeId) (h : SH) (l c : SV) : Option (SV × SH) :=
  match elemOf' P ty with
  | some e => match P.info? e, zeroOf P e, l, c with
    | some i, some z, .c (.int _ l), .c (.int _ c) =>
      if 0 ≤ l ∧ l ≤ c ∧ c * i.bytes ≤ 140737488355328 ∧ 0 < i.bytes ∧ z.length = i.size ∧ 0 < i.size then
        some (.c (.sl h.next 0 l.toNat i.size (some c.toNat)), h.new (rep z c.toNat)) else none
    | _, _, _, _ => none
  | none => none
def sLen (d : TypeDesc) (h : SH) (x : SV) : Option Nat :=
  match d, x with
  | .slice _, .c .nils => some 0
  | .slice _, .c .em => some 0
  | .slice _, .c (.sl _ _ n _ _) => some n
  | .string, .c (.str l) => some l.length
  | .map _ _, .c (.mp none) => some 0
  | .map _ _, .c (.mp (some b)) => match h.get b with
    | some (.map es) => some es.length
    | _ => none
  | _, _ => none
def sClear (e : TypeId) (h : SH) (x : SV) : Option (SV × SH) :=
  match x with
  | .c .nils => some (.tup [], h)
  | .c .em => some (.tup [], h)
  | .c (.sl b o n s' _) =>
    if n = 0 then some (.tup [], h) else
    match zeroOf P e with
    | some z => if z.length = s' ∧ 0 < s' then (h.write b o (rep z n)).map (.tup [], ·) else none
    | none => none
  | _ => none
def sBuiltin (b : Builtin) (tys : Array TypeId) (h : SH) (args : List SV) : Option (SV × SH) :=
  match b, args with
  | .len, [x] => match tys[0]? with
    | some t => match P.underlying t with
      | some d => (sLen d h x).map fun n => (.c (.int .i64 n), h)
      | none => none
    | none => none
  | .append, [x, y] => match tys[0]?, tys[1]? with
    | some t, some u => match P.underlying u with
      | some (.int _) => none
      | some _ => sAppend P t h x y
      | none => none
    | _, _ => none
  | .min, [.c (.int k a), .c (.int _ b)] => some (.c (.int k (if b < a then b else a)), h)
  | .max, [.c (.int k a), .c (.int _ b)] => some (.c (.int k (if a < b then b else a)), h)
  | .clear, [x] => match tys[0]? with
    | some t => match elemOf' P t with
      | some e => sClear P e h x
      | none => none
    | none => none
  | _, _ => none
/-- One operation. call: how a function of the program is called. -/
def step (call : FuncId → List SV → SH → Option (SV × SH)) (t : SF) (h : SH) (o : Oper) : Option (SV × SH) :=
  match o.op with
  | .move x => (ev t x).map (·, h)
  | .assign x => (ev t x).map (·, h)
  | .pick c a b => match ev t c with
    | some (.c (.bool true)) => (ev t a).map (·, h)
    | some (.c (.bool false)) => (ev t b).map (·, h)
    | _ => none
  | .alloc e => match zeroOf P e with
    | some z => some (.c (.ptr h.next 0), h.new z)
    | none => none
  | .box _ x => match ev t x with
    | some v => match v.cells with
      | some cs => some (.c (.ptr h.next 0), h.new cs)
      | none => none
    | none => none
  | .build ty ps => match evps t ps.toList with
    | some l => (sBuild P ty l).map (·, h)
    | none => none
  | .buildSlice ty n ps => match evps t ps.toList with
    | some l => sBuildSlice P ty n l h
    | none => none
  | .load ty x => match ev t x with
    | some (.c (.ptr b o)) => (sLoad P ty h b o).map (·, h)
    | _ => none
  | .store ty x y => match ev t x, ev t y, szOf P ty with
    | some (.c (.ptr b o)), some v, some s => match v.cells with
      | some cs => if cs.length = s then (h.write b o cs).map (.tup [], ·) else none
      | none => none
    | _, _, _ => none
  | .nilCheck x => match ev t x with
    | some (.c (.ptr b o)) => some (.c (.ptr b o), h)
    | _ => none
  | .binOp op ty x y _ => match ev t x, ev t y with
    | some (.c x), some (.c y) => (sBin (P.underlying ty) op x y).map (.c ·, h)
    | _, _ => none
  | .unOp op _ x => match ev t x with
    | some (.c x) => (sUn op x).map (.c ·, h)
    | _ => none
  | .convert s d x => match ev t x with
    | some x => sConvert P s d h x
    | none => none
  | .makeSlice ty l c => match ev t l, ev t c with
    | some l, some c => sMake P ty h l c
    | _, _ => none
  | .slice ty x lo hi mx => match ev t x with
    | some x => (sSlice P t h ty x lo hi mx).map (·, h)
    | none => none
  | .fieldAddr ty x f => match ev t x with
    | some x => (sFieldAddr P ty x f).map (·, h)
    | none => none
  | .field ty x f => match ev t x with
    | some x => (sField P ty x f).map (·, h)
    | none => none
  | .indexAddr ty x i => match ev t x, ev t i with
    | some x, some i => (sIndexAddr P ty x i).map (·, h)
    | _, _ => none
  | .index ty x i => match ev t x, ev t i with
    | some x, some i => (sIndex P ty x i).map (·, h)
    | _, _ => none
  | .extract x i => match ev t x with
    | some (.tup l) => match l[i]? with
      | some v => some (v, h)
      | none => none
    | _ => none
  | .call c => match evs t c.args.toList with
    | some args => match c.callee with
      | .builtin b => sBuiltin P b c.argTypes h args
      | .value (.func f) => call f args h
      | _ => none
    | none => none
  | _ => none
def wantedS (ops : Array Oper) (t : SF) (o : Oper) : Option Bool :=
  match o.guard with
  | none => some true
  | some (j, want) => match ops[j]? with
    | some p => match p.dst with
      | some d => match ev t (.tmp d) with
        | some (.c (.bool b)) => some (b == want)
        | some (.tup _) => some false
        | _ => none
      | none => none
    | none => none
def stepsS (call : FuncId → List SV → SH → Option (SV × SH)) (ops : Array Oper) : List Oper → SF → SH → Option (SF × SH)
  | [], t, h => some (t, h)
  | o :: rest, t, h => match wantedS ops t o with
    | some true => match step P call t h o with
      | some (v, h) => stepsS call ops rest (t.put o.dst v) h
      | none => none
    | some false => stepsS call ops rest (t.put o.dst (.tup [])) h
    | none => none
inductive Ex where
  | normal | exit (id : Nat) | ret
def evRes (t : SF) (h : SH) : List ResultVar → Option (List SV)
  | [] => some []
  | .tmp i :: l => match ev t (.tmp i), evRes t h l with
    | some v, some r => some (v :: r)
    | _, _ => none
  | .cell i ty :: l => match ev t (.tmp i), evRes t h l with
    | some (.c (.ptr b o)), some r => match sLoad P ty h b o with
      | some v => some (v :: r)
      | none => none
    | _, _ => none
def frame (args : List SV) (n : Nat) : SF :=
  ⟨(args.foldl (fun (q : T SV × Nat) v => (q.1.put q.2 (some v), q.2 + 1)) (.e, 0)).1, max n args.length⟩
def SV.flat : SV → Bool
  | .tup _ => false
  | _ => true
def resOf : List SV → Option SV
  | [v] => some v
  | l => if l.all SV.flat then some (.tup l) else none
/-- How a function's body ends. -/
def ending (rs : List ResultVar) : Option (Ex × SF × SH) → Option (SV × SH)
  | some (.normal, t, h) => match evRes P t h rs with
    | some l => (resOf l).map (·, h)
    | none => none
  | some (.ret, t, h) => match evRes P t h rs with
    | some l => (resOf l).map (·, h)
    | none => none
  | _ => none
/-- 0: no memory; 1: it reads; 2: it may change memory, or whatever else. -/
def cls (o : Oper) : Nat :=
  match o.op with
  | .load .. => 1
  | .slice .. => 1
  | .convert s d _ => match P.underlying s, P.underlying d with
    | some (.slice _), _ => 1
    | some (.int _), some (.int _) => 0
    | some .string, some .string => 0
    | _, _ => 2
  | .call c => match c.callee with
    | .builtin .len => 1
    | .builtin .min => 0
    | .builtin .max => 0
    | _ => 2
  | .move _ | .assign _ | .pick .. | .build .. | .nilCheck _ | .binOp .. | .unOp .. | .fieldAddr .. | .field .. | .indexAddr .. | .index .. | .extract .. => 0
  | _ => 2
def predsOf (o : Oper) : List Nat := o.after.toList.filterMap fun e => if Region.binds .any e then some e.on else none
def maskOf (acc : List Nat) (o : Oper) : Nat := (predsOf o).foldr (fun p s => s ||| 2 ^ p ||| acc.getD p 0) 0
/-- Which operations stand ahead of each one. -/
def masks : List Oper → List Nat → List Nat
  | [], acc => acc
  | o :: r, acc => masks r (acc ++ [maskOf acc o])
def tmpsIn (l : List Operand) : List Nat := l.filterMap fun | .tmp t => some t | _ => none
/-- The slots that an operation looks at. -/
def readsOf (ops : Array Oper) (o : Oper) : List Nat :=
  (match o.guard with
    | some (j, _) => match ops[j]? with
      | some p => p.dst.toList
      | none => []
    | none => []) ++ tmpsIn o.op.operands.toList
def hasB (l : List Nat) (d : Option Nat) : Bool :=
  match d with
  | some d => l.any (Nat.beq d)
  | none => false
def clash (ops : Array Oper) (x y : Oper) : Bool := hasB (readsOf ops y) x.dst || (match x.dst with | some d => hasB [d] y.dst | none => false) || hasB (readsOf ops x) y.dst
/-- Slots are named in order; what may change memory stands in order. -/
def inOrder (ops : Array Oper) (ms : List Nat) : List Oper → Nat → List (Oper × Nat) → Bool
  | [], _, _ => true
  | o :: r, j, seen => ((predsOf o).all fun p => Nat.blt p j) && (seen.all fun (p, i) => !(clash ops p o || (Nat.beq (cls P p) 2 && Nat.beq (cls P o) 2)) || Nat.testBit (ms.getD j 0) i) && inOrder ops ms r (j + 1) ((o, j) :: seen)
def floatsOf (ms : List Nat) (es : List Nat) (i : Nat) : List Nat :=
  es.filterMap fun e => if Nat.blt i e then (if Nat.testBit (ms.getD e 0) i then none else some (e + 1)) else if Nat.testBit (ms.getD i 0) e then none else some e
def idxs (c : Nat) : List Oper → Nat → List Nat
  | [], _ => []
  | o :: r, j => if Nat.beq (cls P o) c then j :: idxs c r (j + 1) else idxs c r (j + 1)
/-- What reads and stands in no order with what may change memory: at which other places it is to be tried. -/
def floats (ops : Array Oper) : List (Nat × List Nat) :=
  let ms := masks ops.toList []
  let es := idxs P 2 ops.toList 0
  ((idxs P 1 ops.toList 0).map fun i => (i, floatsOf ms es i)).filter fun p => !p.2.isEmpty
structure Tr where
  t : SF
  h : SH
  v : SV
  w : Bool
def traceS (call : FuncId → List SV → SH → Option (SV × SH)) (ops : Array Oper) : List Oper → SF → SH → Option (List Tr × SF × SH)
  | [], t, h => some ([], t, h)
  | o :: rest, t, h => match wantedS ops t o with
    | some true => match step P call t h o with
      | some (v, h') => match traceS call ops rest (t.put o.dst v) h' with
        | some (l, r) => some (⟨t, h, v, true⟩ :: l, r)
        | none => none
      | none => none
    | some false => match traceS call ops rest (t.put o.dst (.tup [])) h with
      | some (l, r) => some (⟨t, h, .tup [], false⟩ :: l, r)
      | none => none
    | none => none
def eqv : SV → SV → Bool
  | .c x, .c y => decide (x = y)
  | .agg x, .agg y => decide (x = y)
  | _, _ => false
def heapAt (l : List Tr) (h : SH) (k : Nat) : SH :=
  match l[k]? with
  | some x => x.h
  | none => h
def stable (ops : Array Oper) (l : List Tr) (h : SH) : List (Nat × List Nat) → Bool
  | [] => true
  | (i, ks) :: r => (match l[i]?, ops[i]? with
    | some x, some o => !x.w || ks.all fun k => match step P (fun _ _ _ => none) x.t (heapAt l h k) o with
      | some (v, _) => eqv x.v v
      | none => false
    | _, _ => false) && stable ops l h r
def stepsD (draw : Bool) (call : FuncId → List SV → SH → Option (SV × SH)) (ops : Array Oper) (t : SF) (h : SH) : Option (Ex × SF × SH) :=
  match draw with
  | false => match stepsS P call ops ops.toList t h with
    | some (t, h) => some (.normal, t, h)
    | none => none
  | true =>
    if inOrder P ops (masks ops.toList []) ops.toList 0 [] then
      match floats P ops with
      | [] => match stepsS P call ops ops.toList t h with
        | some (t, h) => some (.normal, t, h)
        | none => none
      | fl => match traceS P call ops ops.toList t h with
        | some (l, t, h) => if stable P ops l h fl then some (.normal, t, h) else none
        | none => none
    else none
def exec : Nat → Code → SF → SH → Option (Ex × SF × SH)
  | 0, _, _, _ => none
  | n + 1, c, t, h =>
    match c with
    | .skip => some (.normal, t, h)
    | .ret => some (.ret, t, h)
    | .exit id => some (.exit id, t, h)
    | .seq x y => match exec n x t h with
      | some (.normal, t, h) => exec n y t h
      | r => r
    | .cond c x y => match ev t c with
      | some (.c (.bool true)) => exec n x t h
      | some (.c (.bool false)) => exec n y t h
      | _ => none
    | .block id x => match exec n x t h with
      | some (.exit j, t, h) => if j = id then some (.normal, t, h) else some (.exit j, t, h)
      | r => r
    | .loop x => match exec n x t h with
      | some (.normal, t, h) => exec n (.loop x) t h
      | r => r
    | .region _ ops draw => stepsD P draw (fun f args h =>
        match P.funcs[f]? with
        | some fn => match fn.body with
          | some b => ending P fn.results.toList (exec n b (frame args fn.ntmps) h)
          | none => none
        | none => none) ops t h
    | _ => none
def callS (n : Nat) (f : FuncId) (args : List SV) (h : SH) : Option (SV × SH) :=
  match P.funcs[f]? with
  | some fn => match fn.body with
    | some b => ending P fn.results.toList (exec P n b (frame args fn.ntmps) h)
    | none => none
  | none => none
def isTrue : Option (SV × SH) → Bool
  | some (.c (.bool true), _) => true
  | _ => false
end
end Go.Proofs.Yteegdhfekemhmaa.Sim
