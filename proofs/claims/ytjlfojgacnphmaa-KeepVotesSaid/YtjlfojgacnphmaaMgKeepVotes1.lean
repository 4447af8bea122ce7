/- Texts of this claim, several in one: SimD. -/
import Derived.WalkKit
namespace Go.Proofs.Ytjlfojgacnphmaa.Sim
open Go

inductive T (α : Type) where
  | e
  | n (v : Option α) (l r : T α)
namespace T
variable {α : Type}
def get : T α → Nat → Option α
  | .e, _ => none
  | .n v l r, k => if k = 0 then v else if k % 2 = 1 then l.get (k / 2) else r.get (k / 2 - 1)
def putF : Nat → T α → Nat → Option α → T α
  | 0, t, _, _ => t
  | f + 1, t, k, x =>
    match t with
    | .e => if k = 0 then .n x .e .e else if k % 2 = 1 then .n none (putF f .e (k / 2) x) .e else .n none .e (putF f .e (k / 2 - 1) x)
    | .n v l r => if k = 0 then .n x l r else if k % 2 = 1 then .n v (putF f l (k / 2) x) r else .n v l (putF f r (k / 2 - 1) x)
def put (t : T α) (k : Nat) (x : Option α) : T α := putF (k + 1) t k x
end T

inductive SC where
  | bool (b : Bool)
  | int (k : IntKind) (n : Int)
  | str (l : List Nat)
  | nilp
  | ptr (b o : Nat)
  | nils
  | em
  | sl (b o n s : Nat) (c : Option Nat)
  | mp (b : Option Nat)
  /-- A slice that nobody will write any more: n elements of s cells each. -/
  | fz (n s : Nat) (l : List SC) (c : Option Nat)
  /-- An address in such a one. -/
  | fp (l : List SC) (o : Nat)
  /-- A function value: what stands ahead of the arguments, what it caught. -/
  | cl (f : FuncId) (a b : List SC)
  /-- An interface value. -/
  | ifc (t : TypeId) (x : SC)
inductive SV where
  | c (x : SC)
  | agg (l : List SC)
  | tup (l : List SV)
def SV.cells : SV → Option (List SC)
  | .c x => some [x]
  | .agg l => some l
  | _ => none
inductive SO where
  | row (cells : List SC) (own : Bool)
  | map (es : List (Nat × SC × SV)) (clock : Nat)
  | iter (m : Option Nat) (since : Nat) (seen : List Nat) (last : Nat)
structure SH where
  m : T SO
  next : Nat
structure SF where
  t : T SV
  n : Nat

def ofC : Value → Option SC
  | .bool b => some (.bool b)
  | .int k n => some (.int k n)
  | .string s => some (.str (s.data.toList.map UInt8.toNat))
  | .pointer none => some .nilp
  | .slice none 0 0 => some .nils
  | .map none => some (.mp none)
  | _ => none
def ofCs : List Value → Option (List SC)
  | [] => some []
  | v :: l => match ofC v, ofCs l with
    | some x, some r => some (x :: r)
    | _, _ => none
def ofV : Value → Option SV
  | .agg cs => (ofCs cs.toList).map .agg
  | .tuple cs => if cs.size = 0 then some (.tup []) else none
  | v => (ofC v).map .c

def SF.get (t : SF) (i : Nat) : Option SV := t.t.get i
def SF.put (t : SF) (d : Option Nat) (v : SV) : SF :=
  match d with
  | some d => if d < t.n then ⟨t.t.put d (some v), t.n⟩ else t
  | none => t
def ev (t : SF) : Operand → Option SV
  | .tmp i => t.get i
  | .const v => ofV v
  | .func f => some (.c (.cl f [] []))
  | _ => none
def evs (t : SF) : List Operand → Option (List SV)
  | [] => some []
  | x :: l => match ev t x, evs t l with
    | some v, some r => some (v :: r)
    | _, _ => none
def SH.get (h : SH) (b : Nat) : Option SO := h.m.get b
def SH.put (h : SH) (b : Nat) (o : Option SO) : SH := ⟨h.m.put b o, h.next⟩
def SH.new (h : SH) (cells : List SC) : SH := ⟨h.m.put h.next (some (.row cells true)), h.next + 1⟩

def SH.newO (h : SH) (o : SO) : SH := ⟨h.m.put h.next (some o), h.next + 1⟩

def sBytesLess : List Nat → List Nat → Bool
  | _, [] => false
  | [], _ :: _ => true
  | a :: x, b :: y => Nat.blt a b || (Nat.beq a b && sBytesLess x y)
def eqL : List Nat → List Nat → Bool
  | [], [] => true
  | a :: x, b :: y => Nat.beq a b && eqL x y
  | _, _ => false
def sCmp (op : BinOp) (x y : Int) : Option SC :=
  match op with
  | .eql => some (.bool (decide (x = y)))
  | .neq => some (.bool (!decide (x = y)))
  | .lss => some (.bool (decide (x < y)))
  | .leq => some (.bool (decide (x ≤ y)))
  | .gtr => some (.bool (decide (y < x)))
  | .geq => some (.bool (decide (y ≤ x)))
  | _ => none
def sInt (op : BinOp) (k : IntKind) (x y : Int) : Option SC :=
  match op with
  | .add => some (.int k (k.wrap (x + y)))
  | .sub => some (.int k (k.wrap (x - y)))
  | .mul => some (.int k (k.wrap (x * y)))
  | .quo => if y = 0 then none else some (.int k (k.wrap (x.tdiv y)))
  | .rem => if y = 0 then none else some (.int k (x.tmod y))
  | .and | .or | .xor | .andNot => some (.int k (bits op k x y))
  | op => sCmp op x y
def sStr (op : BinOp) (x y : List Nat) : Option SC :=
  match op with
  | .add => if x.length + y.length ≤ 9223372036854775807 then some (.str (x ++ y)) else none
  | .eql => some (.bool (eqL x y))
  | .neq => some (.bool (!eqL x y))
  | .lss => some (.bool (sBytesLess x y))
  | .leq => some (.bool (sBytesLess x y || eqL x y))
  | .gtr => some (.bool (!(sBytesLess x y || eqL x y)))
  | .geq => some (.bool (!sBytesLess x y))
  | _ => none
def sNil : TypeDesc → SC → SC → Option Bool
  | .pointer _, .nilp, .nilp => some true
  | .pointer _, .nilp, .ptr .. => some false
  | .pointer _, .ptr .., .nilp => some false
  | .pointer _, .nilp, .fp .. => some false
  | .pointer _, .fp .., .nilp => some false
  | .slice _, .nils, .nils => some true
  | .slice _, .nils, .em => some false
  | .slice _, .nils, .sl .. => some false
  | .slice _, .em, .nils => some false
  | .slice _, .sl .., .nils => some false
  | .slice _, .nils, .fz .. => some false
  | .slice _, .fz .., .nils => some false
  | .map _ _, .mp none, .mp none => some true
  | .map _ _, .mp none, .mp (some _) => some false
  | .map _ _, .mp (some _), .mp none => some false
  | .bool, .bool a, .bool b => some (a == b)
  | _, _, _ => none
def sBin (d : Option TypeDesc) (op : BinOp) (x y : SC) : Option SC :=
  match x, y with
  | .int k a, .int k' b =>
    match op with
    | .shl => if b < 0 then none else some (.int k (k.wrap (a * 2 ^ (min b.toNat k.bits))))
    | .shr => if b < 0 then none else some (.int k (a.fdiv (2 ^ (min b.toNat k.bits))))
    | op => if k = k' then sInt op k a b else none
  | .str a, .str b => sStr op a b
  | x, y => match d with
    | some d => match op with
      | .eql => (sNil d x y).map .bool
      | .neq => (sNil d x y).map fun b => .bool (!b)
      | _ => none
    | none => none
def sUn (op : UnOp) (x : SC) : Option SC :=
  match op, x with
  | .neg, .int k n => some (.int k (k.wrap (0 - n)))
  | .xor, .int k n => some (.int k (bits .xor k (if k.signed then -1 else k.max) n))
  | .not, .bool b => some (.bool !b)
  | _, _ => none

section
variable (P : Program)
def isAg (t : TypeId) : Option Bool :=
  match P.underlying t with
  | some (.struct _) => some true
  | some (.array _ _) => some true
  | some _ => some false
  | none => none
def szOf (t : TypeId) : Option Nat :=
  match P.info? t with
  | some i => some i.size
  | none => none
def zeroOf (t : TypeId) : Option (List SC) :=
  match P.info? t with
  | some i => match i.zero with
    | some v => match ofV v with
      | some s => s.cells
      | none => none
    | none => none
  | none => none
def elemOf' (t : TypeId) : Option TypeId :=
  match P.underlying t with
  | some (.slice e) => some e
  | _ => none
def setRange (cs : List SC) (o : Nat) (vs : List SC) : List SC := cs.take o ++ vs ++ cs.drop (o + vs.length)
def SH.read (h : SH) (b o n : Nat) : Option (List SC) :=
  match h.get b with
  | some (.row cs _) => if o + n ≤ cs.length then some ((cs.drop o).take n) else none
  | _ => none
def SH.write (h : SH) (b o : Nat) (vs : List SC) : Option SH :=
  match h.get b with
  | some (.row cs true) => if o + vs.length ≤ cs.length then some (h.put b (some (.row (setRange cs o vs) true))) else none
  | _ => none
def sLoad (t : TypeId) (h : SH) (b o : Nat) : Option SV :=
  match isAg P t, szOf P t with
  | some true, some n => (h.read b o n).map .agg
  | some false, some _ => match h.read b o 1 with
    | some [x] => some (.c x)
    | _ => none
  | _, _ => none
def sLoadL (t : TypeId) (l : List SC) (o : Nat) : Option SV :=
  match isAg P t, szOf P t with
  | some true, some n => if o + n ≤ l.length then some (.agg ((l.drop o).take n)) else none
  | some false, some _ => match l[o]? with
    | some x => some (.c x)
    | none => none
  | _, _ => none
def partsIn (place : Nat → Option (Nat × Nat)) (cells : List SC) : List (Nat × SV) → Option (List SC)
  | [] => some cells
  | (i, v) :: rest =>
    match place i, v.cells with
    | some (off, size), some cs =>
      if cs.length = size ∧ off + size ≤ cells.length then partsIn place (setRange cells off cs) rest else none
    | _, _ => none
def evps (t : SF) : List (Nat × Operand) → Option (List (Nat × SV))
  | [] => some []
  | (i, x) :: l => match ev t x, evps t l with
    | some v, some r => some ((i, v) :: r)
    | _, _ => none
def rep (z : List SC) : Nat → List SC
  | 0 => []
  | n + 1 => z ++ rep z n
def sBuild (ty : TypeId) (parts : List (Nat × SV)) : Option SV :=
  match P.underlying ty, zeroOf P ty with
  | some (.struct fs), some z => match fs.toList.mapM (fun f => (P.info? f.type).map fun i => (f.offset, i.size)) with
    | some places => (partsIn (places.toArray[·]?) z parts).map .agg
    | none => none
  | some (.array _ e), some z => match szOf P e with
    | some s => (partsIn (fun i => some (i * s, s)) z parts).map .agg
    | none => none
  | _, _ => none
def sBuildSlice (ty : TypeId) (n : Nat) (parts : List (Nat × SV)) (h : SH) : Option (SV × SH) :=
  match elemOf' P ty with
  | some e => match szOf P e, zeroOf P e with
    | some s, some z =>
      if n * s ≤ 16777216 ∧ z.length = s ∧ 0 < s then
        match partsIn (fun i => some (i * s, s)) (rep z n) parts with
        | some cs => some (.c (.sl h.next 0 n s (some n)), h.new cs)
        | none => none
      else none
    | _, _ => none
  | none => none
def idx : SV → Option Int
  | .c (.int _ n) => some n
  | _ => none
def sIndexAddr (ty : TypeId) (x i : SV) : Option SV :=
  match P.underlying ty, x, idx i with
  | some (.slice e), .c (.sl b o n s' _), some i => match szOf P e with
    | some s => if 0 ≤ i ∧ i < n ∧ s = s' then some (.c (.ptr b (o + i.toNat * s))) else none
    | none => none
  | some (.slice e), .c (.fz n s' l _), some i => match szOf P e with
    | some s => if 0 ≤ i ∧ i < n ∧ s = s' then some (.c (.fp l (i.toNat * s))) else none
    | none => none
  | some (.array n e), .c (.ptr b o), some i => match szOf P e with
    | some s => if 0 ≤ i ∧ i < n then some (.c (.ptr b (o + i.toNat * s))) else none
    | none => none
  | _, _, _ => none
def sIndex (ty : TypeId) (x i : SV) : Option SV :=
  match P.underlying ty, x, idx i with
  | some .string, .c (.str l), some i => if 0 ≤ i then match l[i.toNat]? with
    | some b => some (.c (.int .u8 b))
    | none => none
    else none
  | some (.array n e), .agg cs, some i => match szOf P e, isAg P e with
    | some s, some true => if 0 ≤ i ∧ i < n then some (.agg ((cs.drop (i.toNat * s)).take s)) else none
    | some s, some false => if 0 ≤ i ∧ i < n then match cs[i.toNat * s]? with
      | some x => some (.c x)
      | none => none
      else none
    | _, _ => none
  | _, _, _ => none
def sFieldAddr (ty : TypeId) (x : SV) (f : Nat) : Option SV :=
  match P.underlying ty, x with
  | some (.struct fs), .c (.ptr b o) => match fs[f]? with
    | some f => match szOf P f.type with
      | some s => if s = 0 then none else some (.c (.ptr b (o + f.offset)))
      | none => none
    | none => none
  | some (.struct fs), .c (.fp l o) => match fs[f]? with
    | some f => match szOf P f.type with
      | some s => if s = 0 then none else some (.c (.fp l (o + f.offset)))
      | none => none
    | none => none
  | _, _ => none
def sPart (ty : TypeId) (cs : List SC) (o : Nat) : Option SV :=
  match isAg P ty, szOf P ty with
  | some true, some s => some (.agg ((cs.drop o).take s))
  | some false, some _ => match cs[o]? with
    | some x => some (.c x)
    | none => none
  | _, _ => none
def sField (ty : TypeId) (x : SV) (f : Nat) : Option SV :=
  match P.underlying ty, x with
  | some (.struct fs), .agg cs => match fs[f]? with
    | some f => sPart P f.type cs f.offset
    | none => none
  | _, _ => none
def bnd (t : SF) (x : Option Operand) (d : Nat) : Option Nat :=
  match x with
  | none => some d
  | some o => match ev t o with
    | some (.c (.int _ n)) => if 0 ≤ n then some n.toNat else none
    | _ => none
def bndM (t : SF) (x : Option Operand) : Option (Option Nat) :=
  match x with
  | none => some none
  | some o => match ev t o with
    | some (.c (.int _ n)) => if 0 ≤ n then some (some n.toNat) else none
    | _ => none
def reach (h : SH) (b k : Nat) : Bool :=
  match h.get b with
  | some (.row cs _) => Nat.ble k cs.length
  | _ => false
def sSlice (t : SF) (h : SH) (ty : TypeId) (x : SV) (lo hi mx : Option Operand) : Option SV :=
  match P.underlying ty, x with
  | some .string, .c (.str l) => match bnd t lo 0, bnd t hi l.length, bndM t mx with
    | some a, some b, some none => if a ≤ b ∧ b ≤ l.length then some (.c (.str ((l.take b).drop a))) else none
    | _, _, _ => none
  | some (.slice e), .c (.sl b o n s' c) => match szOf P e, bnd t lo 0, bnd t hi n, bndM t mx with
    | some s, some l, some r, some m =>
      if l ≤ r ∧ s = s' ∧ 0 < s ∧ (m.isSome = true → hi.isSome = true) then
        match c, m with
        | some c, none => if r ≤ c then some (.c (.sl b (o + l * s) (r - l) s (some (c - l)))) else none
        | some c, some m => if r ≤ m ∧ m ≤ c then some (.c (.sl b (o + l * s) (r - l) s (some (m - l)))) else none
        | none, none => if r ≤ n ∨ reach h b (o + r * s) = true then some (.c (.sl b (o + l * s) (r - l) s none)) else none
        | none, some m => if r ≤ m ∧ (m ≤ n ∨ reach h b (o + m * s) = true) then some (.c (.sl b (o + l * s) (r - l) s (some (m - l)))) else none
      else none
    | _, _, _, _ => none
  | some (.slice e), .c (.fz n s' q c) => match szOf P e, bnd t lo 0, bnd t hi n, bndM t mx with
    | some s, some l, some r, some m =>
      if l ≤ r ∧ r ≤ n ∧ s = s' ∧ (m.isSome = true → hi.isSome = true) then
        match m with
        | none => some (.c (.fz (r - l) s ((q.drop (l * s)).take ((r - l) * s)) (c.map (· - l))))
        | some m => if r ≤ m ∧ m ≤ n then some (.c (.fz (r - l) s ((q.drop (l * s)).take ((r - l) * s)) (some (m - l)))) else none
      else none
    | _, _, _, _ => none
  | some (.slice e), .c .nils => match szOf P e, bnd t lo 0, bnd t hi 0, bndM t mx with
    | some _, some 0, some 0, some none => some (.c .nils)
    | some _, some 0, some 0, some (some 0) => if hi.isSome = true then some (.c .nils) else none
    | _, _, _, _ => none
  | some (.slice e), .c .em => match szOf P e, bnd t lo 0, bnd t hi 0, bndM t mx with
    | some _, some 0, some 0, some none => some (.c .em)
    | _, _, _, _ => none
  | _, _ => none
def elems (h : SH) (s : Nat) : SV → Option (Nat × List SC)
  | .c .nils => some (0, [])
  | .c .em => some (0, [])
  | .c (.sl b o n s' _) => if s = s' then (h.read b o (n * s)).map fun l => (n, l) else none
  | .c (.fz n s' l _) => if s = s' then some (n, l) else none
  | .c (.str l) => if s = 1 then some (l.length, l.map fun (b : Nat) => SC.int .u8 (b : Int)) else none
  | _ => none
def roomB (c : Option Nat) (k o s len : Nat) : Bool :=
  match c with
  | some c => Nat.ble k c
  | none => Nat.ble (o + k * s) len
def sAppend (ty : TypeId) (h : SH) (x y : SV) : Option (SV × SH) :=
  match elemOf' P ty with
  | some e => match P.info? e, zeroOf P e with
    | some i, some z =>
      if z.length ≠ i.size then none else
      match elems h i.size y with
      | some (k, new) =>
        match x with
        | .c .nils => if k = 0 then some (x, h) else
          if k * i.bytes ≤ 140737488355328 ∧ 0 < i.bytes ∧ 0 < i.size then some (.c (.sl h.next 0 k i.size none), h.new new) else none
        | .c .em => if k = 0 then some (x, h) else none
        | .c (.fz n s l (some c)) => if k = 0 then some (x, h) else
          if (n + k) * i.bytes ≤ 140737488355328 ∧ 0 < i.bytes ∧ 0 < i.size ∧ s = i.size ∧ c < n + k then some (.c (.sl h.next 0 (n + k) s none), h.new (l ++ new)) else none
        | .c (.fz _ _ _ none) => if k = 0 then some (x, h) else none
        | .c (.sl b o n s c) => if k = 0 then some (x, h) else
          if (n + k) * i.bytes ≤ 140737488355328 ∧ 0 < i.bytes ∧ 0 < i.size ∧ s = i.size then
            match h.get b with
            | some (.row cs own) =>
              if roomB c (n + k) o s cs.length = true then
                (h.write b (o + n * s) new).map fun h => (.c (.sl b o (n + k) s c), h)
              else if o + n * s ≤ cs.length ∧ (c.isSome = true ∨ own = true) then
                some (.c (.sl h.next 0 (n + k) s none), (if c.isSome then h else h.put b none).new ((cs.drop o).take (n * s) ++ new))
              else none
            | _ => none
          else none
        | _ => none
      | none => none
    | _, _ => none
  | none => none
def byteOf' : SC → Option Nat
  | .int .u8 n => if 0 ≤ n ∧ n < 256 then some n.toNat else none
  | _ => none
def bytesOf' : List SC → Option (List Nat)
  | [] => some []
  | x :: l => match byteOf' x, bytesOf' l with
    | some b, some r => some (b :: r)
    | _, _ => none
def sConvert (src dst : TypeId) (h : SH) (x : SV) : Option (SV × SH) :=
  match P.underlying src, P.underlying dst, x with
  | some (.int _), some (.int k), .c (.int _ n) => some (.c (.int k (k.wrap n)), h)
  | some .string, some .string, .c (.str l) => some (.c (.str l), h)
  | some .string, some (.slice e), .c (.str l) => match P.underlying e with
    | some (.int .u8) => if l.length ≤ 140737488355328 then some (.c (.sl h.next 0 l.length 1 none), h.new (l.map fun (b : Nat) => SC.int .u8 (b : Int))) else none
    | _ => none
  | some (.slice _), some (.slice e), .c (.sl b o n s c) => match P.underlying e, h.get b with
    | some (.int .u8), some (.row _ true) => if src = dst ∧ 0 < n then some (.c (.sl b o n s c), h) else none
    | _, _ => none
  | some (.slice e), some .string, x => match P.underlying e with
    | some (.int .u8) => match x with
      | .c .nils => some (.c (.str []), h)
      | .c .em => some (.c (.str []), h)
      | .c (.sl b o n s _) => if s ≠ 1 then none else match h.read b o n with
        | some cs => match bytesOf' cs with
          | some l => some (.c (.str l), h)
          | none => none
        | none => none
      | .c (.fz _ s l _) => if s ≠ 1 then none else match bytesOf' l with
        | some l => some (.c (.str l), h)
        | none => none
      | _ => none
    | _ => none
  | _, _, _ => none
def sMake (ty : TypeId) (h : SH) (l c : SV) : Option (SV × SH) :=
  match elemOf' P ty with
  | some e => match P.info? e, zeroOf P e, l, c with
    | some i, some z, .c (.int _ l), .c (.int _ c) =>
      if 0 ≤ l ∧ l ≤ c ∧ c * i.bytes ≤ 140737488355328 ∧ 0 < i.bytes ∧ z.length = i.size ∧ 0 < i.size then
        some (.c (.sl h.next 0 l.toNat i.size (some c.toNat)), h.new (rep z c.toNat)) else none
    | _, _, _, _ => none
  | none => none
def sLen (d : TypeDesc) (h : SH) (x : SV) : Option Nat :=
  match d, x with
  | .slice _, .c .nils => some 0
  | .slice _, .c .em => some 0
  | .slice _, .c (.sl _ _ n _ _) => some n
  | .slice _, .c (.fz n _ _ _) => some n
  | .string, .c (.str l) => some l.length
  | .map _ _, .c (.mp none) => some 0
  | .map _ _, .c (.mp (some b)) => match h.get b with
    | some (.map es _) => some es.length
    | _ => none
  | _, _ => none
def sClear (e : TypeId) (h : SH) (x : SV) : Option (SV × SH) :=
  match x with
  | .c .nils => some (.tup [], h)
  | .c .em => some (.tup [], h)
  | .c (.sl b o n s' _) =>
    if n = 0 then some (.tup [], h) else
    match zeroOf P e with
    | some z => if z.length = s' ∧ 0 < s' then (h.write b o (rep z n)).map (.tup [], ·) else none
    | none => none
  | _ => none
/-! Maps. -/
def keyEq : SC → SC → Option Bool
  | .int k a, .int k' b => if k = k' then some (decide (a = b)) else none
  | .str a, .str b => some (eqL a b)
  | .bool a, .bool b => some (a == b)
  | _, _ => none
def keyKind (kt : TypeId) (k : SC) : Bool :=
  match P.underlying kt, k with
  | some (.int _), .int _ _ => true
  | some .string, .str _ => true
  | some .bool, .bool _ => true
  | _, _ => false
def findS (k : SC) : List (Nat × SC × SV) → Nat → Option (Option (Nat × SV))
  | [], _ => some none
  | e :: es, i => match keyEq k e.2.1 with
    | some true => some (some (i, e.2.2))
    | some false => findS k es (i + 1)
    | none => none
def setAt (k : SC) (v : SV) : List (Nat × SC × SV) → Nat → List (Nat × SC × SV)
  | [], _ => []
  | e :: r, 0 => (e.1, k, v) :: r
  | e :: r, i + 1 => e :: setAt k v r i
def eraseAt : List (Nat × SC × SV) → Nat → List (Nat × SC × SV)
  | [], _ => []
  | _ :: r, 0 => r
  | e :: r, i + 1 => e :: eraseAt r i
def zeroVal (t : TypeId) : Option SV :=
  match P.info? t with
  | some i => match i.zero with
    | some v => match ofV v with
      | some (.tup _) => none
      | r => r
    | none => none
  | none => none
def entriesOf (h : SH) : SV → Option (List (Nat × SC × SV))
  | .c (.mp none) => some []
  | .c (.mp (some b)) => match h.get b with
    | some (.map es _) => some es
    | _ => none
  | _ => none
def eqFields : List Field → List SC → List SC → Option Bool
  | [], _, _ => some true
  | f :: r, x, y =>
    if f.name = "_" then none else
    match sPart P f.type x f.offset, sPart P f.type y f.offset with
    | some (.c a), some (.c b) => if keyKind P f.type a = true then match keyEq a b, eqFields r x y with
        | some u, some v => some (u && v)
        | _, _ => none
      else none
    | _, _ => none
def eqElems (e : TypeId) (c : Nat) : List Nat → List SC → List SC → Option Bool
  | [], _, _ => some true
  | i :: is, x, y =>
    match sPart P e x (i * c), sPart P e y (i * c) with
    | some (.c a), some (.c b) => if keyKind P e a = true then match keyEq a b, eqElems e c is x y with
        | some u, some v => some (u && v)
        | _, _ => none
      else none
    | _, _ => none
def sBinAgg (ty : TypeId) (op : BinOp) (x y : List SC) : Option SC :=
  match P.underlying ty with
  | some (.struct _) => if (!P.stoodInHeld ty && !P.eqGuardType P.depth ty) = true then match op with
    | .eql => (eqFields P (P.fieldsOf ty).toList x y).map .bool
    | .neq => (eqFields P (P.fieldsOf ty).toList x y).map fun b => .bool (!b)
    | _ => none
    else none
  | some (.array n e) => if (!P.eqGuardType P.depth ty && (P.info? e).isSome) = true then match op with
    | .eql => (eqElems P e (P.cellsOf e) (List.range n) x y).map .bool
    | .neq => (eqElems P e (P.cellsOf e) (List.range n) x y).map fun b => .bool (!b)
    | _ => none
    else none
  | _ => none
def lookRes (c : Bool) (v : SV) (b : Bool) : SV :=
  match c with
  | true => .tup [v, .c (.bool b)]
  | false => v
def sLookup (xt : TypeId) (h : SH) (x k : SV) (ok : Bool) : Option SV :=
  match P.underlying xt, k with
  | some (.map kt et), .c k =>
    if keyKind P kt k = true then
      match entriesOf h x with
      | some es => match findS k es 0 with
        | some (some (_, v)) => some (lookRes ok v true)
        | some none => match zeroVal P et with
          | some z => some (lookRes ok z false)
          | none => none
        | none => none
      | none => none
    else none
  | _, _ => none
def isFlat : SV → Bool
  | .tup _ => false
  | _ => true
def sUpdate (mt : TypeId) (h : SH) (m k v : SV) : Option SH :=
  match P.underlying mt, m, k with
  | some (.map kt _), .c (.mp (some b)), .c k =>
    if keyKind P kt k = true ∧ isFlat v = true then
      match h.get b with
      | some (.map es clock) => match findS k es 0 with
        | some (some (i, _)) => some (h.put b (some (.map (setAt k v es i) clock)))
        | some none => some (h.put b (some (.map (es ++ [(clock, k, v)]) (clock + 1))))
        | none => none
      | _ => none
    else none
  | _, _, _ => none
def sDelete (mt : TypeId) (h : SH) (m k : SV) : Option SH :=
  match P.underlying mt, m, k with
  | some (.map kt _), .c (.mp none), .c k => if keyKind P kt k = true then some h else none
  | some (.map kt _), .c (.mp (some b)), .c k =>
    if keyKind P kt k = true then
      match h.get b with
      | some (.map es clock) => match findS k es 0 with
        | some (some (i, _)) => some (h.put b (some (.map (eraseAt es i) clock)))
        | some none => some h
        | none => none
      | _ => none
    else none
  | _, _, _ => none
def sRange (xt : TypeId) (h : SH) (x : SV) : Option (SV × SH) :=
  match P.underlying xt, x with
  | some (.map _ _), .c (.mp none) => some (.c (.ptr h.next 0), h.newO (.iter none 0 [] 0))
  | some (.map _ _), .c (.mp (some b)) => match h.get b with
    | some (.map _ clock) => some (.c (.ptr h.next 0), h.newO (.iter (some b) clock [] clock))
    | _ => none
  | _, _ => none
def sNext (h : SH) (it : SV) : Option (SV × SH) :=
  match it with
  | .c (.ptr r 0) => match h.get r with
    | some (.iter none _ _ _) => some (.tup [.c (.bool false)], h)
    | some (.iter (some b) since seen last) => match h.get b with
      | some (.map es clock) =>
        if (!seen.isEmpty && !es.isEmpty && es.all (fun e => Nat.ble last e.1)) = true then none else
        match es.filter (fun e => !(seen.any (Nat.beq e.1)) && Nat.blt e.1 since), es.filter (fun e => !(seen.any (Nat.beq e.1)) && !(Nat.blt e.1 since)) with
        | [], [] => some (.tup [.c (.bool false)], h)
        | [e], [] => some (.tup [.c (.bool true), .c e.2.1, e.2.2], h.put r (some (.iter (some b) since (seen ++ [e.1]) clock)))
        | _, _ => none
      | _ => none
    | _ => none
  | _ => none
def findBorn (k : Nat) : List (Nat × SC × SV) → Option (Nat × SC × SV)
  | [] => none
  | e :: r => if Nat.beq e.1 k = true then some e else findBorn k r
def lastOf : List Nat → Option Nat
  | [] => none
  | [x] => some x
  | _ :: y :: r => lastOf (y :: r)
def sEntry (h : SH) (it : SV) : Option SV :=
  match it with
  | .c (.ptr r 0) => match h.get r with
    | some (.iter (some b) _ seen last) => match lastOf seen, h.get b with
      | some k, some (.map es clock) => if clock = last then match findBorn k es with
          | some e => some (.tup [.c e.2.1, e.2.2])
          | none => none
        else none
      | _, _ => none
    | _ => none
  | _ => none
def onesOf : List SV → Option (List SC)
  | [] => some []
  | .c x :: l => match onesOf l with
    | some r => some (x :: r)
    | none => none
  | _ :: _ => none
def sExtern (f : FuncId) (args : List SV) (h : SH) : Option (SV × SH) :=
  match P.funcs[f]? with
  | some fn => match fn.body with
    | some _ => none
    | none => if (fn.name == "maps.clone" && (fn.origin == "maps.clone" || fn.origin == "")) = true then
        match args with
        | [.c (.ifc t (.mp (some b)))] => match h.get b with
          | some (.map es clock) => some (.c (.ifc t (.mp (some h.next))), h.newO (.map es clock))
          | _ => none
        | _ => none
      else none
  | none => none
def sBuiltin (b : Builtin) (tys : Array TypeId) (h : SH) (args : List SV) : Option (SV × SH) :=
  match b, args with
  | .len, [x] => match tys[0]? with
    | some t => match P.underlying t with
      | some d => (sLen d h x).map fun n => (.c (.int .i64 n), h)
      | none => none
    | none => none
  | .append, [x, y] => match tys[0]?, tys[1]? with
    | some t, some u => match P.underlying u with
      | some (.int _) => none
      | some _ => sAppend P t h x y
      | none => none
    | _, _ => none
  | .min, [.c (.int k a), .c (.int _ b)] => some (.c (.int k (if b < a then b else a)), h)
  | .max, [.c (.int k a), .c (.int _ b)] => some (.c (.int k (if a < b then b else a)), h)
  | .delete, [m, k] => match tys[0]? with
    | some t => (sDelete P t h m k).map (.tup [], ·)
    | none => none
  | .clear, [x] => match tys[0]? with
    | some t => match elemOf' P t with
      | some e => sClear P e h x
      | none => none
    | none => none
  | _, _ => none
def step (call : FuncId → List SV → SH → Option (SV × SH)) (t : SF) (h : SH) (o : Oper) : Option (SV × SH) :=
  match o.op with
  | .move x => (ev t x).map (·, h)
  | .assign x => (ev t x).map (·, h)
  | .pick c a b => match ev t c with
    | some (.c (.bool true)) => (ev t a).map (·, h)
    | some (.c (.bool false)) => (ev t b).map (·, h)
    | _ => none
  | .alloc e => match zeroOf P e with
    | some z => some (.c (.ptr h.next 0), h.new z)
    | none => none
  | .box _ x => match ev t x with
    | some v => match v.cells with
      | some cs => some (.c (.ptr h.next 0), h.new cs)
      | none => none
    | none => none
  | .build ty ps => match evps t ps.toList with
    | some l => (sBuild P ty l).map (·, h)
    | none => none
  | .buildSlice ty n ps => match evps t ps.toList with
    | some l => sBuildSlice P ty n l h
    | none => none
  | .load ty x => match ev t x with
    | some (.c (.ptr b o)) => (sLoad P ty h b o).map (·, h)
    | some (.c (.fp l o)) => (sLoadL P ty l o).map (·, h)
    | _ => none
  | .store ty x y => match ev t x, ev t y, szOf P ty with
    | some (.c (.ptr b o)), some v, some s => match v.cells with
      | some cs => if cs.length = s then (h.write b o cs).map (.tup [], ·) else none
      | none => none
    | _, _, _ => none
  | .nilCheck x => match ev t x with
    | some (.c (.ptr b o)) => some (.c (.ptr b o), h)
    | some (.c (.fp l o)) => some (.c (.fp l o), h)
    | _ => none
  | .binOp op ty x y _ => match ev t x, ev t y with
    | some (.c x), some (.c y) => (sBin (P.underlying ty) op x y).map (.c ·, h)
    | some (.agg x), some (.agg y) => (sBinAgg P ty op x y).map (.c ·, h)
    | _, _ => none
  | .unOp op _ x => match ev t x with
    | some (.c x) => (sUn op x).map (.c ·, h)
    | _ => none
  | .convert s d x => match ev t x with
    | some x => sConvert P s d h x
    | none => none
  | .makeSlice ty l c => match ev t l, ev t c with
    | some l, some c => sMake P ty h l c
    | _, _ => none
  | .slice ty x lo hi mx => match ev t x with
    | some x => (sSlice P t h ty x lo hi mx).map (·, h)
    | none => none
  | .fieldAddr ty x f => match ev t x with
    | some x => (sFieldAddr P ty x f).map (·, h)
    | none => none
  | .field ty x f => match ev t x with
    | some x => (sField P ty x f).map (·, h)
    | none => none
  | .indexAddr ty x i => match ev t x, ev t i with
    | some x, some i => (sIndexAddr P ty x i).map (·, h)
    | _, _ => none
  | .index ty x i => match ev t x, ev t i with
    | some x, some i => (sIndex P ty x i).map (·, h)
    | _, _ => none
  | .extract x i => match ev t x with
    | some (.tup l) => match l[i]? with
      | some v => some (v, h)
      | none => none
    | _ => none
  | .call c => match evs t c.args.toList with
    | some args => match c.callee with
      | .builtin b => sBuiltin P b c.argTypes h args
      | .value (.func f) => match sExtern P f args h with
        | some r => some r
        | none => call f args h
      | .value (.tmp i) => match t.get i with
        | some (.c (.cl f a b)) => call f (a.map SV.c ++ args ++ b.map SV.c) h
        | _ => none
      | _ => none
    | none => none
  | .makeMap ty r => match P.underlying ty, r with
    | some (.map _ _), none => some (.c (.mp (some h.next)), h.newO (.map [] 0))
    | some (.map _ _), some r => match ev t r with
      | some (.c (.int _ _)) => some (.c (.mp (some h.next)), h.newO (.map [] 0))
      | _ => none
    | _, _ => none
  | .lookup ty x k ok => match ev t x, ev t k with
    | some x, some k => (sLookup P ty h x k ok).map (·, h)
    | _, _ => none
  | .mapUpdate ty m k x => match ev t m, ev t k, ev t x with
    | some m, some k, some x => (sUpdate P ty h m k x).map (.tup [], ·)
    | _, _, _ => none
  | .insert ty m k x => match ev t m, ev t k, ev t x with
    | some m, some k, some x => (sUpdate P ty h m k x).map (.tup [], ·)
    | _, _, _ => none
  | .range ty x => match ev t x with
    | some x => sRange P ty h x
    | none => none
  | .next it false => match ev t it with
    | some it => sNext h it
    | none => none
  | .entry it => match ev t it with
    | some it => (sEntry h it).map (·, h)
    | none => none
  | .makeInterface ty x => match P.underlying ty, ev t x with
    | some (.interface _), _ => none
    | some _, some (.c x) => some (.c (.ifc ty x), h)
    | _, _ => none
  | .typeAssert x _ ty ok => match P.underlying ty, ev t x with
    | some (.interface _), _ => none
    | some _, some (.c (.ifc d x)) => if d = ty then some (lookRes ok (.c x) true, h) else none
    | _, _ => none
  | .makeFunc (.func f) a b => match evs t a.toList, evs t b.toList with
    | some a, some b => match onesOf a, onesOf b with
      | some a, some b => some (.c (.cl f a b), h)
      | _, _ => none
    | _, _ => none
  | _ => none
def wantedS (ops : Array Oper) (t : SF) (o : Oper) : Option Bool :=
  match o.guard with
  | none => some true
  | some (j, want) => match ops[j]? with
    | some p => match p.dst with
      | some d => match ev t (.tmp d) with
        | some (.c (.bool b)) => some (b == want)
        | some (.tup _) => some false
        | _ => none
      | none => none
    | none => none
def stepsS (call : FuncId → List SV → SH → Option (SV × SH)) (ops : Array Oper) : List Oper → SF → SH → Option (SF × SH)
  | [], t, h => some (t, h)
  | o :: rest, t, h => match wantedS ops t o with
    | some true => match step P call t h o with
      | some (v, h) => stepsS call ops rest (t.put o.dst v) h
      | none => none
    | some false => stepsS call ops rest (t.put o.dst (.tup [])) h
    | none => none
inductive Ex where
  | normal | exit (id : Nat) | ret
def evRes (t : SF) (h : SH) : List ResultVar → Option (List SV)
  | [] => some []
  | .tmp i :: l => match ev t (.tmp i), evRes t h l with
    | some v, some r => some (v :: r)
    | _, _ => none
  | .cell i ty :: l => match ev t (.tmp i), evRes t h l with
    | some (.c (.ptr b o)), some r => match sLoad P ty h b o with
      | some v => some (v :: r)
      | none => none
    | _, _ => none
def frame (args : List SV) (n : Nat) : SF :=
  ⟨(args.foldl (fun (q : T SV × Nat) v => (q.1.put q.2 (some v), q.2 + 1)) (.e, 0)).1, max n args.length⟩
def SV.flat : SV → Bool
  | .tup _ => false
  | _ => true
def resOf : List SV → Option SV
  | [v] => some v
  | l => if l.all SV.flat then some (.tup l) else none
def ending (rs : List ResultVar) : Option (Ex × SF × SH) → Option (SV × SH)
  | some (.normal, t, h) => match evRes P t h rs with
    | some l => (resOf l).map (·, h)
    | none => none
  | some (.ret, t, h) => match evRes P t h rs with
    | some l => (resOf l).map (·, h)
    | none => none
  | _ => none
def cls (o : Oper) : Nat :=
  match o.op with
  | .load .. => 1
  | .slice .. => 1
  | .lookup .. => 1
  | .entry _ => 1
  | .convert s d _ => match P.underlying s, P.underlying d with
    | some (.slice _), _ => 1
    | some (.int _), some (.int _) => 0
    | some .string, some .string => 0
    | _, _ => 2
  | .call c => match c.callee with
    | .builtin .len => 1
    | .builtin .min => 0
    | .builtin .max => 0
    | _ => 2
  | .move _ | .assign _ | .pick .. | .build .. | .nilCheck _ | .binOp .. | .unOp .. | .fieldAddr .. | .field .. | .indexAddr .. | .index .. | .extract .. | .makeFunc .. | .makeInterface .. | .typeAssert .. => 0
  | _ => 2
def predsOf (o : Oper) : List Nat := o.after.toList.filterMap fun e => if Region.binds .any e then some e.on else none
def maskOf (acc : List Nat) (o : Oper) : Nat := (predsOf o).foldr (fun p s => s ||| 2 ^ p ||| acc.getD p 0) 0
def masks : List Oper → List Nat → List Nat
  | [], acc => acc
  | o :: r, acc => masks r (acc ++ [maskOf acc o])
def tmpsIn (l : List Operand) : List Nat := l.filterMap fun | .tmp t => some t | _ => none
def readsOf (ops : Array Oper) (o : Oper) : List Nat :=
  (match o.guard with
    | some (j, _) => match ops[j]? with
      | some p => p.dst.toList
      | none => []
    | none => []) ++ tmpsIn o.op.operands.toList
def hasB (l : List Nat) (d : Option Nat) : Bool :=
  match d with
  | some d => l.any (Nat.beq d)
  | none => false
def clash (ops : Array Oper) (x y : Oper) : Bool := hasB (readsOf ops y) x.dst || (match x.dst with | some d => hasB [d] y.dst | none => false) || hasB (readsOf ops x) y.dst
def inOrder (ops : Array Oper) (ms : List Nat) : List Oper → Nat → List (Oper × Nat) → Bool
  | [], _, _ => true
  | o :: r, j, seen => ((predsOf o).all fun p => Nat.blt p j) && (seen.all fun (p, i) => !(clash ops p o || (Nat.beq (cls P p) 2 && Nat.beq (cls P o) 2)) || Nat.testBit (ms.getD j 0) i) && inOrder ops ms r (j + 1) ((o, j) :: seen)
def floatsOf (ms : List Nat) (es : List Nat) (i : Nat) : List Nat :=
  es.filterMap fun e => if Nat.blt i e then (if Nat.testBit (ms.getD e 0) i then none else some (e + 1)) else if Nat.testBit (ms.getD i 0) e then none else some e
def idxs (c : Nat) : List Oper → Nat → List Nat
  | [], _ => []
  | o :: r, j => if Nat.beq (cls P o) c then j :: idxs c r (j + 1) else idxs c r (j + 1)
def floats (ops : Array Oper) : List (Nat × List Nat) :=
  let ms := masks ops.toList []
  let es := idxs P 2 ops.toList 0
  ((idxs P 1 ops.toList 0).map fun i => (i, floatsOf ms es i)).filter fun p => !p.2.isEmpty
structure Tr where
  t : SF
  h : SH
  v : SV
  w : Bool
def traceS (call : FuncId → List SV → SH → Option (SV × SH)) (ops : Array Oper) : List Oper → SF → SH → Option (List Tr × SF × SH)
  | [], t, h => some ([], t, h)
  | o :: rest, t, h => match wantedS ops t o with
    | some true => match step P call t h o with
      | some (v, h') => match traceS call ops rest (t.put o.dst v) h' with
        | some (l, r) => some (⟨t, h, v, true⟩ :: l, r)
        | none => none
      | none => none
    | some false => match traceS call ops rest (t.put o.dst (.tup [])) h with
      | some (l, r) => some (⟨t, h, .tup [], false⟩ :: l, r)
      | none => none
    | none => none
def eqC : SC → SC → Bool
  | .bool a, .bool b => a == b
  | .int k n, .int k' n' => decide (k = k') && decide (n = n')
  | .str a, .str b => eqL a b
  | .nilp, .nilp => true
  | .ptr b o, .ptr b' o' => Nat.beq b b' && Nat.beq o o'
  | .nils, .nils => true
  | .em, .em => true
  | .sl b o n s c, .sl b' o' n' s' c' => Nat.beq b b' && Nat.beq o o' && Nat.beq n n' && Nat.beq s s' && decide (c = c')
  | .mp b, .mp b' => decide (b = b')
  | _, _ => false
def eqCs : List SC → List SC → Bool
  | [], [] => true
  | x :: l, y :: r => eqC x y && eqCs l r
  | _, _ => false
def eqv : SV → SV → Bool
  | .c x, .c y => eqC x y
  | .agg x, .agg y => eqCs x y
  | _, _ => false
def heapAt (l : List Tr) (h : SH) (k : Nat) : SH :=
  match l[k]? with
  | some x => x.h
  | none => h
def stable (ops : Array Oper) (l : List Tr) (h : SH) : List (Nat × List Nat) → Bool
  | [] => true
  | (i, ks) :: r => (match l[i]?, ops[i]? with
    | some x, some o => !x.w || ks.all fun k => match step P (fun _ _ _ => none) x.t (heapAt l h k) o with
      | some (v, _) => eqv x.v v
      | none => false
    | _, _ => false) && stable ops l h r
/-! Regions in which allocations float: they get their names ahead. -/
def isNew (o : Oper) : Bool :=
  match o.op with
  | .alloc _ => true
  | .box _ _ => true
  | .buildSlice _ _ _ => true
  | _ => false
def isEff (o : Oper) : Bool := Nat.beq (cls P o) 2 && !isNew o
def inOrder3 (ops : Array Oper) (ms : List Nat) : List Oper → Nat → List (Oper × Nat) → Bool
  | [], _, _ => true
  | o :: r, j, seen => ((predsOf o).all fun p => Nat.blt p j) && (seen.all fun (p, i) => !(clash ops p o || (Nat.beq (cls P p) 2 && isEff P o)) || Nat.testBit (ms.getD j 0) i) && inOrder3 ops ms r (j + 1) ((o, j) :: seen)
def effs : List Oper → Nat → List Nat
  | [], _ => []
  | o :: r, j => if isEff P o then j :: effs r (j + 1) else effs r (j + 1)
def needAt (ms es : List Nat) (i c : Nat) : Bool := (es.all fun e => !(Nat.blt e c && Nat.testBit (ms.getD e 0) i)) && (es.all fun e => !(Nat.ble c e && Nat.testBit (ms.getD i 0) e))
def reads3 (ops : Array Oper) : List (Nat × List Nat) :=
  let ms := masks ops.toList []
  let es := effs P ops.toList 0
  (idxs P 1 ops.toList 0).map fun i => (i, (0 :: es.map (· + 1)).filter (needAt ms es i))
def stepN (call : FuncId → List SV → SH → Option (SV × SH)) (nb : Nat) (t : SF) (h : SH) (o : Oper) : Option (SV × SH) :=
  match isNew o with
  | true => match step P call t ⟨h.m, nb⟩ o with
    | some (v, h') => some (v, ⟨h'.m, h.next⟩)
    | none => none
  | false => step P call t h o
def traceN (call : FuncId → List SV → SH → Option (SV × SH)) (ops : Array Oper) : List Oper → Nat → SF → SH → Option (List Tr × SF × SH)
  | [], _, t, h => some ([], t, h)
  | o :: rest, nb, t, h => match wantedS ops t o with
    | some true => match stepN P call nb t h o with
      | some (v, h') => match traceN call ops rest (nb + 1) (t.put o.dst v) h' with
        | some (l, r) => some (⟨t, h, v, true⟩ :: l, r)
        | none => none
      | none => none
    | some false => match traceN call ops rest (nb + 1) (t.put o.dst (.tup [])) h with
      | some (l, r) => some (⟨t, h, .tup [], false⟩ :: l, r)
      | none => none
    | none => none
def stepsD (draw : Bool) (call : FuncId → List SV → SH → Option (SV × SH)) (ops : Array Oper) (t : SF) (h : SH) : Option (Ex × SF × SH) :=
  match draw with
  | false => match stepsS P call ops ops.toList t h with
    | some (t, h) => some (.normal, t, h)
    | none => none
  | true =>
    if inOrder P ops (masks ops.toList []) ops.toList 0 [] then
      match floats P ops with
      | [] => match stepsS P call ops ops.toList t h with
        | some (t, h) => some (.normal, t, h)
        | none => none
      | fl => match traceS P call ops ops.toList t h with
        | some (l, t, h) => if stable P ops l h fl then some (.normal, t, h) else none
        | none => none
    else if inOrder3 P ops (masks ops.toList []) ops.toList 0 [] then
      match traceN P call ops ops.toList h.next t ⟨h.m, h.next + ops.size⟩ with
      | some (l, t, h) => if stable P ops l h (reads3 P ops) then some (.normal, t, h) else none
      | none => none
    else none
def exec : Nat → Code → SF → SH → Option (Ex × SF × SH)
  | 0, _, _, _ => none
  | n + 1, c, t, h =>
    match c with
    | .skip => some (.normal, t, h)
    | .ret => some (.ret, t, h)
    | .exit id => some (.exit id, t, h)
    | .seq x y => match exec n x t h with
      | some (.normal, t, h) => exec n y t h
      | r => r
    | .cond c x y => match ev t c with
      | some (.c (.bool true)) => exec n x t h
      | some (.c (.bool false)) => exec n y t h
      | _ => none
    | .block id x => match exec n x t h with
      | some (.exit j, t, h) => if j = id then some (.normal, t, h) else some (.exit j, t, h)
      | r => r
    | .loop x => match exec n x t h with
      | some (.normal, t, h) => exec n (.loop x) t h
      | r => r
    | .region _ ops draw => stepsD P draw (fun f args h =>
        match P.funcs[f]? with
        | some fn => match fn.body with
          | some b => ending P fn.results.toList (exec n b (frame args fn.ntmps) h)
          | none => none
        | none => none) ops t h
    | _ => none
def isTrue : Option (SV × SH) → Bool
  | some (.c (.bool true), _) => true
  | _ => false
end
/-! Ways of these functions, laid once. -/
set_option linter.unusedVariables false
theorem at_eqv (P : Program) {x y : SV} {r : Bool} (h : eqv x y = r) : True := by
  unfold eqv at h
  repeat' split at h
  all_goals trivial
theorem at_eqC (P : Program) {x y : SC} {r : Bool} (h : eqC x y = r) : True := by
  unfold eqC at h
  repeat' split at h
  all_goals trivial
theorem at_sConvert (P : Program) {s d : TypeId} {h : SH} {x : SV} {r : Option (SV × SH)} (h : sConvert P s d h x = r) : True := by
  unfold sConvert at h
  repeat' split at h
  all_goals trivial
theorem at_sLen (P : Program) {d : TypeDesc} {h : SH} {x : SV} {r : Option Nat} (h : sLen d h x = r) : True := by
  unfold sLen at h
  repeat' split at h
  all_goals trivial
theorem at_sSlice (P : Program) {t : SF} {h : SH} {ty : TypeId} {x : SV} {lo hi mx : Option Operand} {r : Option SV} (h : sSlice P t h ty x lo hi mx = r) : True := by
  unfold sSlice at h
  repeat' split at h
  all_goals trivial
theorem at_elems (P : Program) {h : SH} {s : Nat} {x : SV} {r : Option (Nat × List SC)} (h : elems h s x = r) : True := by
  unfold elems at h
  repeat' split at h
  all_goals trivial
theorem at_sAppend (P : Program) {t : TypeId} {h : SH} {x y : SV} {r : Option (SV × SH)} (h : sAppend P t h x y = r) : True := by
  unfold sAppend at h
  repeat' split at h
  all_goals trivial
theorem at_sFieldAddr (P : Program) {t : TypeId} {x : SV} {f : Nat} {r : Option SV} (h : sFieldAddr P t x f = r) : True := by
  unfold sFieldAddr at h
  repeat' split at h
  all_goals trivial
theorem at_sField (P : Program) {t : TypeId} {x : SV} {f : Nat} {r : Option SV} (h : sField P t x f = r) : True := by
  unfold sField at h
  repeat' split at h
  all_goals trivial
theorem at_sIndexAddr (P : Program) {t : TypeId} {x y : SV} {r : Option SV} (h : sIndexAddr P t x y = r) : True := by
  unfold sIndexAddr at h
  repeat' split at h
  all_goals trivial
theorem at_sIndex (P : Program) {t : TypeId} {x y : SV} {r : Option SV} (h : sIndex P t x y = r) : True := by
  unfold sIndex at h
  repeat' split at h
  all_goals trivial
theorem at_sNil (P : Program) {t : TypeDesc} {x y : SC} {r : Option Bool} (h : sNil t x y = r) : True := by
  unfold sNil at h
  repeat' split at h
  all_goals trivial
theorem at_sBin (P : Program) {t : Option TypeDesc} {o : BinOp} {x y : SC} {r : Option SC} (h : sBin t o x y = r) : True := by
  unfold sBin at h
  repeat' split at h
  all_goals trivial
theorem at_sUn (P : Program) {o : UnOp} {x : SC} {r : Option SC} (h : sUn o x = r) : True := by
  unfold sUn at h
  repeat' split at h
  all_goals trivial
theorem at_sMake (P : Program) {t : TypeId} {h : SH} {x y : SV} {r : Option (SV × SH)} (h : sMake P t h x y = r) : True := by
  unfold sMake at h
  repeat' split at h
  all_goals trivial
theorem at_sClear (P : Program) {t : TypeId} {h : SH} {x : SV} {r : Option (SV × SH)} (h : sClear P t h x = r) : True := by
  unfold sClear at h
  repeat' split at h
  all_goals trivial
theorem at_sBuiltin (P : Program) {b : Builtin} {ts : Array TypeId} {h : SH} {l : List SV} {r : Option (SV × SH)} (h : sBuiltin P b ts h l = r) : True := by
  unfold sBuiltin at h
  repeat' split at h
  all_goals trivial
theorem at_wantedS (P : Program) {ops : Array Oper} {t : SF} {o : Oper} {r : Option Bool} (h : wantedS ops t o = r) : True := by
  unfold wantedS at h
  repeat' split at h
  all_goals trivial
theorem at_idx (P : Program) {x : SV} {r : Option Int} (h : idx x = r) : True := by
  unfold idx at h
  repeat' split at h
  all_goals trivial
theorem at_bnd (P : Program) {t : SF} {x : Option Operand} {d : Nat} {r : Option Nat} (h : bnd t x d = r) : True := by
  unfold bnd at h
  repeat' split at h
  all_goals trivial
theorem at_bndM (P : Program) {t : SF} {x : Option Operand} {r : Option (Option Nat)} (h : bndM t x = r) : True := by
  unfold bndM at h
  repeat' split at h
  all_goals trivial
theorem at_evRes (P : Program) {t : SF} {h : SH} {l : List ResultVar} {r : Option (List SV)} (h : evRes P t h l = r) : True := by
  unfold evRes at h
  repeat' split at h
  all_goals trivial
theorem at_isTrue (P : Program) {x : Option (SV × SH)} {r : Bool} (h : isTrue x = r) : True := by
  unfold isTrue at h
  repeat' split at h
  all_goals trivial
theorem at_SV_cells (P : Program) {x : SV} {r : Option (List SC)} (h : SV.cells x = r) : True := by
  unfold SV.cells at h
  repeat' split at h
  all_goals trivial
theorem at_byteOf (P : Program) {x : SC} {r : Option Nat} (h : byteOf' x = r) : True := by
  unfold byteOf' at h
  repeat' split at h
  all_goals trivial
theorem at_keyEq (P : Program) {x y : SC} {r : Option Bool} (h0 : keyEq x y = r) : True := by
  unfold keyEq at h0
  repeat' split at h0
  all_goals trivial
theorem at_keyKind (P : Program) {kt : TypeId} {k : SC} {r : Bool} (h0 : keyKind P kt k = r) : True := by
  unfold keyKind at h0
  repeat' split at h0
  all_goals trivial
theorem at_entriesOf (P : Program) {h : SH} {x : SV} {r : Option (List (Nat × SC × SV))} (h0 : entriesOf h x = r) : True := by
  unfold entriesOf at h0
  repeat' split at h0
  all_goals trivial
theorem at_zeroVal (P : Program) {t : TypeId} {r : Option SV} (h0 : zeroVal P t = r) : True := by
  unfold zeroVal at h0
  repeat' split at h0
  all_goals trivial
theorem at_sLookup (P : Program) {xt : TypeId} {h : SH} {x k : SV} {ok : Bool} {r : Option SV} (h0 : sLookup P xt h x k ok = r) : True := by
  unfold sLookup at h0
  repeat' split at h0
  all_goals trivial
theorem at_isFlat (P : Program) {x : SV} {r : Bool} (h0 : isFlat x = r) : True := by
  unfold isFlat at h0
  repeat' split at h0
  all_goals trivial
theorem at_sUpdate (P : Program) {xt : TypeId} {h : SH} {m k v : SV} {r : Option SH} (h0 : sUpdate P xt h m k v = r) : True := by
  unfold sUpdate at h0
  repeat' split at h0
  all_goals trivial
theorem at_sDelete (P : Program) {xt : TypeId} {h : SH} {m k : SV} {r : Option SH} (h0 : sDelete P xt h m k = r) : True := by
  unfold sDelete at h0
  repeat' split at h0
  all_goals trivial
theorem at_sRange (P : Program) {xt : TypeId} {h : SH} {x : SV} {r : Option (SV × SH)} (h0 : sRange P xt h x = r) : True := by
  unfold sRange at h0
  repeat' split at h0
  all_goals trivial
theorem at_sNext (P : Program) {h : SH} {x : SV} {r : Option (SV × SH)} (h0 : sNext h x = r) : True := by
  unfold sNext at h0
  repeat' split at h0
  all_goals trivial
theorem at_sEntry (P : Program) {h : SH} {x : SV} {r : Option SV} (h0 : sEntry h x = r) : True := by
  unfold sEntry at h0
  repeat' split at h0
  all_goals trivial
theorem at_onesOf (P : Program) {x : List SV} {r : Option (List SC)} (h0 : onesOf x = r) : True := by
  unfold onesOf at h0
  repeat' split at h0
  all_goals trivial
theorem at_sExtern (P : Program) {f : FuncId} {l : List SV} {h : SH} {r : Option (SV × SH)} (h0 : sExtern P f l h = r) : True := by
  unfold sExtern at h0
  repeat' split at h0
  all_goals trivial
theorem at_lookRes (P : Program) {c b : Bool} {v r : SV} (h0 : lookRes c v b = r) : True := by
  unfold lookRes at h0
  repeat' split at h0
  all_goals trivial
theorem at_step (P : Program) {call : FuncId → List SV → SH → Option (SV × SH)} {t : SF} {h : SH} {o : Oper} {r : Option (SV × SH)} (hs : step P call t h o = r) : True := by
  unfold step at hs
  repeat' split at hs
  all_goals trivial
end Go.Proofs.Ytjlfojgacnphmaa.Sim
