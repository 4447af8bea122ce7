/- Operations in which every type is resolved; how they are had. No program in sight. -/
import Derived.Test.YtgaaffanoegbhaaSymD
namespace Go.Proofs.Ytgaaffanoegbhaa.Sym
open Go Go.RowKit Go.Proofs.Ytgaaffanoegbhaa.Sim
set_option linter.unusedSimpArgs false
set_option linter.unusedVariables false

section lists
variable {α β : Type}
def takeS : List α → Nat → Option (List α)
  | _, 0 => some []
  | x :: l, n + 1 => match takeS l n with
    | some r => some (x :: r)
    | none => none
  | [], _ + 1 => none
def dropS : List α → Nat → Option (List α)
  | l, 0 => some l
  | _ :: l, n + 1 => dropS l n
  | [], _ + 1 => none
def getN (l : List α) (o n : Nat) : Option (List α) :=
  match dropS l o with
  | some r => takeS r n
  | none => none
def putS : List α → List α → Option (List α)
  | l, [] => some l
  | _ :: l, v :: vs => match putS l vs with
    | some r => some (v :: r)
    | none => none
  | [], _ :: _ => none
def setN : List α → Nat → List α → Option (List α)
  | l, 0, vs => putS l vs
  | x :: l, o + 1, vs => match setN l o vs with
    | some r => some (x :: r)
    | none => none
  | [], _ + 1, _ => none
theorem takeS_eq : ∀ {l : List α} {n : Nat} {r : List α}, takeS l n = some r → n ≤ l.length ∧ r = l.take n
  | l, 0, r, h => by cases l <;> (simp only [takeS, Option.some.injEq] at h; subst h; simp)
  | [], n + 1, r, h => by simp [takeS] at h
  | x :: l, n + 1, r, h => by
    simp only [takeS] at h
    split at h
    · rename_i q hq
      simp only [Option.some.injEq] at h
      subst h
      obtain ⟨h1, h2⟩ := takeS_eq hq
      exact ⟨by simp; omega, by simp [h2]⟩
    · cases h
theorem dropS_eq : ∀ {l : List α} {n : Nat} {r : List α}, dropS l n = some r → n ≤ l.length ∧ r = l.drop n
  | l, 0, r, h => by cases l <;> (simp only [dropS, Option.some.injEq] at h; subst h; simp)
  | [], n + 1, r, h => by simp [dropS] at h
  | x :: l, n + 1, r, h => by
    simp only [dropS] at h
    obtain ⟨h1, h2⟩ := dropS_eq h
    exact ⟨by simp; omega, by simp [h2]⟩
theorem getN_eq {l : List α} {o n : Nat} {r : List α} (h : getN l o n = some r) : o + n ≤ l.length ∧ r = (l.drop o).take n := by
  unfold getN at h
  split at h
  · rename_i q hq
    obtain ⟨h1, rfl⟩ := dropS_eq hq
    obtain ⟨h2, rfl⟩ := takeS_eq h
    simp only [List.length_drop] at h2
    exact ⟨by omega, rfl⟩
  · cases h
theorem putS_eq : ∀ {l vs r : List α}, putS l vs = some r → vs.length ≤ l.length ∧ r = vs ++ l.drop vs.length
  | l, [], r, h => by cases l <;> (simp only [putS, Option.some.injEq] at h; subst h; simp)
  | [], v :: vs, r, h => by simp [putS] at h
  | x :: l, v :: vs, r, h => by
    simp only [putS] at h
    split at h
    · rename_i q hq
      simp only [Option.some.injEq] at h
      subst h
      obtain ⟨h1, h2⟩ := putS_eq hq
      exact ⟨by simp; omega, by simp [h2]⟩
    · cases h
theorem setN_eq : ∀ {l : List α} {o : Nat} {vs r : List α}, setN l o vs = some r → o + vs.length ≤ l.length ∧ r = l.take o ++ vs ++ l.drop (o + vs.length)
  | l, 0, vs, r, h => by
    have h' : putS l vs = some r := by cases l <;> simpa only [setN] using h
    obtain ⟨h1, h2⟩ := putS_eq h'
    exact ⟨by omega, by simp [h2]⟩
  | [], o + 1, vs, r, h => by simp [setN] at h
  | x :: l, o + 1, vs, r, h => by
    simp only [setN] at h
    split at h
    · rename_i q hq
      simp only [Option.some.injEq] at h
      subst h
      obtain ⟨h1, h2⟩ := setN_eq hq
      exact ⟨by simp; omega, by rw [h2, show o + 1 + vs.length = o + vs.length + 1 by omega]; simp⟩
    · cases h
theorem map_getN {l r : List α} {o n : Nat} (f : α → β) (h : getN l o n = some r) : o + n ≤ (l.map f).length ∧ ((l.map f).drop o).take n = r.map f := by
  obtain ⟨h1, rfl⟩ := getN_eq h
  exact ⟨by simpa using h1, by simp [List.map_take, List.map_drop]⟩
theorem map_setN {l vs r : List α} {o : Nat} (f : α → SC) (h : setN l o vs = some r) : o + (vs.map f).length ≤ (l.map f).length ∧ setRange (l.map f) o (vs.map f) = r.map f := by
  obtain ⟨h1, rfl⟩ := setN_eq h
  exact ⟨by simpa using h1, by simp [setRange, List.map_take, List.map_drop]⟩
end lists

/-- A small number, written out. -/
def lit : Nat → Option Nat
  | 0 => some 0
  | 1 => some 1
  | 2 => some 2
  | 3 => some 3
  | 4 => some 4
  | 5 => some 5
  | 6 => some 6
  | 7 => some 7
  | 8 => some 8
  | 9 => some 9
  | 10 => some 10
  | 11 => some 11
  | 12 => some 12
  | 13 => some 13
  | 14 => some 14
  | 15 => some 15
  | 16 => some 16
  | 17 => some 17
  | 18 => some 18
  | 19 => some 19
  | 20 => some 20
  | 21 => some 21
  | 22 => some 22
  | 23 => some 23
  | 24 => some 24
  | 25 => some 25
  | 26 => some 26
  | 27 => some 27
  | 28 => some 28
  | 29 => some 29
  | 30 => some 30
  | 31 => some 31
  | 32 => some 32
  | 33 => some 33
  | 34 => some 34
  | 35 => some 35
  | 36 => some 36
  | 37 => some 37
  | 38 => some 38
  | 39 => some 39
  | 40 => some 40
  | 41 => some 41
  | 42 => some 42
  | 43 => some 43
  | 44 => some 44
  | 45 => some 45
  | 46 => some 46
  | 47 => some 47
  | 48 => some 48
  | 49 => some 49
  | 50 => some 50
  | 51 => some 51
  | 52 => some 52
  | 53 => some 53
  | 54 => some 54
  | 55 => some 55
  | 56 => some 56
  | 57 => some 57
  | 58 => some 58
  | 59 => some 59
  | 60 => some 60
  | 61 => some 61
  | 62 => some 62
  | 63 => some 63
  | 64 => some 64
  | 72 => some 72
  | 80 => some 80
  | 88 => some 88
  | 96 => some 96
  | 104 => some 104
  | 112 => some 112
  | 120 => some 120
  | 128 => some 128
  | 136 => some 136
  | 144 => some 144
  | 152 => some 152
  | 160 => some 160
  | 168 => some 168
  | 176 => some 176
  | 184 => some 184
  | 192 => some 192
  | 200 => some 200
  | 208 => some 208
  | 216 => some 216
  | 224 => some 224
  | 232 => some 232
  | 240 => some 240
  | 248 => some 248
  | 256 => some 256
  | 264 => some 264
  | 272 => some 272
  | 280 => some 280
  | 288 => some 288
  | 296 => some 296
  | 304 => some 304
  | 312 => some 312
  | 320 => some 320
  | 328 => some 328
  | 336 => some 336
  | 344 => some 344
  | 352 => some 352
  | 360 => some 360
  | 368 => some 368
  | 376 => some 376
  | 384 => some 384
  | 392 => some 392
  | 400 => some 400
  | 408 => some 408
  | 416 => some 416
  | 424 => some 424
  | 432 => some 432
  | 440 => some 440
  | 448 => some 448
  | 456 => some 456
  | 464 => some 464
  | 472 => some 472
  | 480 => some 480
  | 488 => some 488
  | 496 => some 496
  | 504 => some 504
  | 512 => some 512
  | 520 => some 520
  | _ => none
theorem lit_eq {n m : Nat} (h : lit n = some m) : m = n := by
  unfold lit at h
  split at h
  all_goals first
    | (simp only [Option.some.injEq] at h; exact h.symm)
    | (cases h; done)
inductive NK where
  | ptr | sl | mp | bool | no
inductive KK where
  | int | str | bool
def nkOf : Option TypeDesc → NK
  | some (.pointer _) => .ptr
  | some (.slice _) => .sl
  | some (.map _ _) => .mp
  | some .bool => .bool
  | _ => .no
inductive LK where
  | mv (x : LX)
  | pick (c a b : LX)
  | new (z : List XC)
  | box (x : LX)
  | bld (z : List XC) (ps : List (Nat × Nat × LX))
  | bldS (s n : Nat) (z : List XC) (ps : List (Nat × LX))
  | ld1 (x : LX)
  | ldn (n : Nat) (x : LX)
  | st (s : Nat) (x y : LX)
  | nilck (x : LX)
  | bin (k : NK) (op : BinOp) (x y : LX)
  | un (op : UnOp) (x : LX)
  | cvI (k : IntKind) (x : LX)
  | cvId (x : LX)
  | cvSB (x : LX)
  | cvBS (x : LX)
  | cvO (x : LX)
  | mkS (s bytes : Nat) (z : List XC) (l c : LX)
  | slS (x : LX) (lo hi : Option LX)
  | sl (s : Nat) (x : LX) (lo hi mx : Option LX)
  | fa (off : Nat) (x : LX)
  | fld1 (off : Nat) (x : LX)
  | fldn (off n : Nat) (x : LX)
  | ia (s : Nat) (x i : LX)
  | iaP (n s : Nat) (x i : LX)
  | ix (x i : LX)
  | ext (x : LX) (i : Nat)
  | call (f : FuncId) (args : List LX)
  | len (k : NK) (x : LX)
  | lenStr (x : LX)
  | app (s bytes : Nat) (x y : LX)
  | min (x y : LX)
  | max (x y : LX)
  | mkM
  | look (kk : KK) (z : XV) (ok : Bool) (x k : LX)
  | upd (kk : KK) (m k v : LX)
  | del (kk : KK) (m k : LX)
def zeroX (P : Program) (t : TypeId) : Option (List XC) :=
  match P.info? t with
  | some i => match i.zero with
    | some v => match xofV v with
      | some x => match x.cells with
        | some l => some l
        | none => none
      | none => none
    | none => none
  | none => none
theorem zeroX_sc {P : Program} {t : TypeId} {z : List XC} (h : zeroX P t = some z) : zeroOf P t = some (z.map XC.sc) := by
  unfold zeroX at h
  unfold zeroOf
  repeat' split at h
  all_goals first
    | cases h; done
    | skip
  simp only [Option.some.injEq] at h
  subst h
  simp only [‹P.info? t = some _›, ‹TypeInfo.zero _ = some _›, xofV_sv ‹xofV _ = some _›, XV.cells_sv ‹XV.cells _ = some _›]
def lowO : Option Operand → Option (Option LX)
  | none => some none
  | some o => match lowX o with
    | some x => some (some x)
    | none => none
/-- The parts of a struct: where, how many cells, what. -/
def lowPs (P : Program) (fs : Array Field) : List (Nat × Operand) → Option (List (Nat × Nat × LX))
  | [] => some []
  | (i, o) :: l => match fs[i]?, lowX o, lowPs P fs l with
    | some f, some x, some r => match szOf P f.type with
      | some s => match lit f.offset, lit s with
        | some off, some s => some ((off, s, x) :: r)
        | _, _ => none
      | none => none
    | _, _, _ => none
def lowPa (s : Nat) : List (Nat × Operand) → Option (List (Nat × Nat × LX))
  | [] => some []
  | (i, o) :: l => match lowX o, lowPa s l with
    | some x, some r => some ((i * s, s, x) :: r)
    | _, _ => none
def lowPb : List (Nat × Operand) → Option (List (Nat × LX))
  | [] => some []
  | (i, o) :: l => match lowX o, lowPb l with
    | some x, some r => some ((i, x) :: r)
    | _, _ => none
def kkOf (P : Program) (t : TypeId) : Option KK :=
  match P.underlying t with
  | some (.int _) => some .int
  | some .string => some .str
  | some .bool => some .bool
  | _ => none
def zeroVX (P : Program) (t : TypeId) : Option XV :=
  match P.info? t with
  | some i => match i.zero with
    | some v => match xofV v with
      | some (.tup _) => none
      | r => r
    | none => none
  | none => none
theorem zeroVX_sv {P : Program} {t : TypeId} {z : XV} (h : zeroVX P t = some z) : zeroVal P t = some z.sv := by
  unfold zeroVX at h
  unfold zeroVal
  split at h
  · rename_i i h1
    split at h
    · rename_i v h2
      split at h
      · cases h
      · rename_i r hr
        have h3 := xofV_sv h
        simp only [h1, h2, h3]
        cases z with
        | c x => rfl
        | agg l => rfl
        | tup l => exact absurd h (hr l)
    · cases h
  · cases h
def hasBody (P : Program) (f : FuncId) : Bool :=
  match P.funcs[f]? with
  | some fn => fn.body.isSome
  | none => false
/-- What an operation is, its types resolved. -/
inductive Lw (P : Program) : Op → LK → Prop where
  | mv {o x} (h : lowX o = some x) : Lw P (.move o) (.mv x)
  | asg {o x} (h : lowX o = some x) : Lw P (.assign o) (.mv x)
  | pick {c a b c' a' b'} (h1 : lowX c = some c') (h2 : lowX a = some a') (h3 : lowX b = some b') : Lw P (.pick c a b) (.pick c' a' b')
  | new {t z} (h : zeroX P t = some z) : Lw P (.alloc t) (.new z)
  | box {t o x} (h : lowX o = some x) : Lw P (.box t o) (.box x)
  | bld {t ps fs z ps'} (h1 : P.underlying t = some (.struct fs)) (h2 : zeroX P t = some z) (h3 : lowPs P fs ps.toList = some ps') (h4 : (fs.toList.mapM (fun f => (P.info? f.type).map fun i => (f.offset, i.size))).isSome = true) : Lw P (.build t ps) (.bld z ps')
  | bldA {t ps n e z ps' s} (h1 : P.underlying t = some (.array n e)) (h2 : zeroX P t = some z) (h3 : szOf P e = some s) (h4 : lowPa s ps.toList = some ps') : Lw P (.build t ps) (.bld z ps')
  | bldS {t n ps e s z ps'} (h1 : elemOf' P t = some e) (h2 : szOf P e = some s) (h3 : zeroX P e = some z) (h4 : n * s ≤ 16777216) (h5 : z.length = s) (h6 : 0 < s) (h7 : lowPb ps.toList = some ps') : Lw P (.buildSlice t n ps) (.bldS s n z ps')
  | ld1 {t o x} (h : lowX o = some x) (h1 : isAg P t = some false) (h2 : (szOf P t).isSome = true) : Lw P (.load t o) (.ld1 x)
  | ldn {t o x n} (h : lowX o = some x) (h1 : isAg P t = some true) (h2 : szOf P t = some n) : Lw P (.load t o) (.ldn n x)
  | st {t o x p y s} (h : lowX o = some x) (h1 : lowX p = some y) (h2 : szOf P t = some s) : Lw P (.store t o p) (.st s x y)
  | nilck {o x} (h : lowX o = some x) : Lw P (.nilCheck o) (.nilck x)
  | bin {op t o x p y u} (h : lowX o = some x) (h1 : lowX p = some y) : Lw P (.binOp op t o p u) (.bin (nkOf (P.underlying t)) op x y)
  | un {op t o x} (h : lowX o = some x) : Lw P (.unOp op t o) (.un op x)
  | cvI {a b o x k k'} (h : lowX o = some x) (h1 : P.underlying a = some (.int k')) (h2 : P.underlying b = some (.int k)) : Lw P (.convert a b o) (.cvI k x)
  | cvId {a b o x} (h : lowX o = some x) (h1 : P.underlying a = some .string) (h2 : P.underlying b = some .string) : Lw P (.convert a b o) (.cvId x)
  | cvSB {a b o x e} (h : lowX o = some x) (h1 : P.underlying a = some .string) (h2 : P.underlying b = some (.slice e)) (h3 : P.underlying e = some (.int .u8)) : Lw P (.convert a b o) (.cvSB x)
  | cvBS {a b o x e} (h : lowX o = some x) (h1 : P.underlying a = some (.slice e)) (h2 : P.underlying b = some .string) (h3 : P.underlying e = some (.int .u8)) : Lw P (.convert a b o) (.cvBS x)
  | cvO {a b o x e} (h : lowX o = some x) (h1 : a = b) (h2 : P.underlying a = some (.slice e)) (h3 : P.underlying e = some (.int .u8)) : Lw P (.convert a b o) (.cvO x)
  | mkS {t l c l' c' e i z} (h : lowX l = some l') (h1 : lowX c = some c') (h2 : elemOf' P t = some e) (h3 : P.info? e = some i) (h4 : zeroX P e = some z) (h5 : 0 < i.bytes) (h6 : z.length = i.size) (h7 : 0 < i.size) : Lw P (.makeSlice t l c) (.mkS i.size i.bytes z l' c')
  | slS {t o x lo hi lo' hi'} (h : lowX o = some x) (h1 : P.underlying t = some .string) (h2 : lowO lo = some lo') (h3 : lowO hi = some hi') : Lw P (.slice t o lo hi none) (.slS x lo' hi')
  | sl {t o x lo hi mx lo' hi' mx' e s} (h : lowX o = some x) (h1 : P.underlying t = some (.slice e)) (h2 : szOf P e = some s) (h3 : lowO lo = some lo') (h4 : lowO hi = some hi') (h5 : lowO mx = some mx') : Lw P (.slice t o lo hi mx) (.sl s x lo' hi' mx')
  | fa {t o x f fs fd s} (h : lowX o = some x) (h1 : P.underlying t = some (.struct fs)) (h2 : fs[f]? = some fd) (h3 : szOf P fd.type = some s) (h4 : ¬ s = 0) : Lw P (.fieldAddr t o f) (.fa fd.offset x)
  | fld1 {t o x f fs fd} (h : lowX o = some x) (h1 : P.underlying t = some (.struct fs)) (h2 : fs[f]? = some fd) (h3 : isAg P fd.type = some false) (h4 : (szOf P fd.type).isSome = true) : Lw P (.field t o f) (.fld1 fd.offset x)
  | fldn {t o x f fs fd n} (h : lowX o = some x) (h1 : P.underlying t = some (.struct fs)) (h2 : fs[f]? = some fd) (h3 : isAg P fd.type = some true) (h4 : szOf P fd.type = some n) : Lw P (.field t o f) (.fldn fd.offset n x)
  | ia {t o x p i e s} (h : lowX o = some x) (h1 : lowX p = some i) (h2 : P.underlying t = some (.slice e)) (h3 : szOf P e = some s) : Lw P (.indexAddr t o p) (.ia s x i)
  | iaP {t o x p i e s n} (h : lowX o = some x) (h1 : lowX p = some i) (h2 : P.underlying t = some (.array n e)) (h3 : szOf P e = some s) : Lw P (.indexAddr t o p) (.iaP n s x i)
  | ix {t o x p i} (h : lowX o = some x) (h1 : lowX p = some i) (h2 : P.underlying t = some .string) : Lw P (.index t o p) (.ix x i)
  | ext {o x i} (h : lowX o = some x) : Lw P (.extract o i) (.ext x i)
  | call {f as as' ts} (h : lowXs as.toList = some as') (h1 : hasBody P f = true) : Lw P (.call ⟨.value (.func f), as, ts⟩) (.call f as')
  | len {o as ts x t d} (h : lowX o = some x) (h1 : as.toList = [o]) (h2 : ts[0]? = some t) (h3 : P.underlying t = some d) (h4 : (∃ e, d = .slice e) ∨ ∃ k e, d = .map k e) : Lw P (.call ⟨.builtin .len, as, ts⟩) (.len (nkOf (some d)) x)
  | lenStr {o as ts x t} (h : lowX o = some x) (h1 : as.toList = [o]) (h2 : ts[0]? = some t) (h3 : P.underlying t = some .string) : Lw P (.call ⟨.builtin .len, as, ts⟩) (.lenStr x)
  | app {o p as ts x y t u e i z d} (h : lowX o = some x) (h1 : lowX p = some y) (h2 : as.toList = [o, p]) (h3 : ts[0]? = some t) (h4 : ts[1]? = some u) (h5 : P.underlying u = some d) (h6 : ∀ k, d ≠ .int k) (h7 : elemOf' P t = some e) (h8 : P.info? e = some i) (h9 : zeroOf P e = some z) (h10 : z.length = i.size) (h11 : 0 < i.bytes) (h12 : 0 < i.size) : Lw P (.call ⟨.builtin .append, as, ts⟩) (.app i.size i.bytes x y)
  | min {o p as ts x y} (h : lowX o = some x) (h1 : lowX p = some y) (h2 : as.toList = [o, p]) : Lw P (.call ⟨.builtin .min, as, ts⟩) (.min x y)
  | max {o p as ts x y} (h : lowX o = some x) (h1 : lowX p = some y) (h2 : as.toList = [o, p]) : Lw P (.call ⟨.builtin .max, as, ts⟩) (.max x y)
  | mkM {t k e} (h : P.underlying t = some (.map k e)) : Lw P (.makeMap t none) .mkM
  | look {t o p ok x k kt et kk z} (h : lowX o = some x) (h1 : lowX p = some k) (h2 : P.underlying t = some (.map kt et)) (h3 : kkOf P kt = some kk) (h4 : zeroVX P et = some z) : Lw P (.lookup t o p ok) (.look kk z ok x k)
  | upd {t m k v m' k' v' kt et kk} (h : lowX m = some m') (h1 : lowX k = some k') (h2 : lowX v = some v') (h3 : P.underlying t = some (.map kt et)) (h4 : kkOf P kt = some kk) : Lw P (.mapUpdate t m k v) (.upd kk m' k' v')
  | ins {t m k v m' k' v' kt et kk} (h : lowX m = some m') (h1 : lowX k = some k') (h2 : lowX v = some v') (h3 : P.underlying t = some (.map kt et)) (h4 : kkOf P kt = some kk) : Lw P (.insert t m k v) (.upd kk m' k' v')
  | del {as ts m k m' k' t kt et kk} (h : lowX m = some m') (h1 : lowX k = some k') (h2 : as.toList = [m, k]) (h3 : ts[0]? = some t) (h4 : P.underlying t = some (.map kt et)) (h5 : kkOf P kt = some kk) : Lw P (.call ⟨.builtin .delete, as, ts⟩) (.del kk m' k')
def lowerB (P : Program) (b : Builtin) (as : List Operand) (ts : Array TypeId) : Option LK :=
  match b, as with
  | .len, [o] => match ts[0]?, lowX o with
    | some t, some x => match P.underlying t with
      | some .string => some (.lenStr x)
      | some (.slice _) => some (.len .sl x)
      | some (.map _ _) => some (.len .mp x)
      | _ => none
    | _, _ => none
  | .append, [o, p] => match lowX o, lowX p, ts[0]?, ts[1]? with
    | some x, some y, some t, some u => match P.underlying u with
      | some (.int _) => none
      | some _ => match elemOf' P t with
        | some e => match P.info? e, zeroOf P e with
          | some i, some z => match lit i.size, lit i.bytes with
            | some s, some b => if z.length = i.size ∧ 0 < i.bytes ∧ 0 < i.size then some (.app s b x y) else none
            | _, _ => none
          | _, _ => none
        | none => none
      | none => none
    | _, _, _, _ => none
  | .min, [o, p] => match lowX o, lowX p with
    | some x, some y => some (.min x y)
    | _, _ => none
  | .max, [o, p] => match lowX o, lowX p with
    | some x, some y => some (.max x y)
    | _, _ => none
  | .delete, [m, k] => match lowX m, lowX k, ts[0]? with
    | some m', some k', some t => match P.underlying t with
      | some (.map kt _) => match kkOf P kt with
        | some kk => some (.del kk m' k')
        | none => none
      | _ => none
    | _, _, _ => none
  | _, _ => none
def lowerK (P : Program) : Op → Option LK
  | .move o => match lowX o with
    | some x => some (.mv x)
    | none => none
  | .assign o => match lowX o with
    | some x => some (.mv x)
    | none => none
  | .pick c a b => match lowX c, lowX a, lowX b with
    | some c, some a, some b => some (.pick c a b)
    | _, _, _ => none
  | .alloc t => match zeroX P t with
    | some z => some (.new z)
    | none => none
  | .box _ o => match lowX o with
    | some x => some (.box x)
    | none => none
  | .build t ps => match P.underlying t, zeroX P t with
    | some (.struct fs), some z => match lowPs P fs ps.toList with
      | some ps' => if (fs.toList.mapM (fun f => (P.info? f.type).map fun i => (f.offset, i.size))).isSome = true then some (.bld z ps') else none
      | none => none
    | some (.array _ e), some z => match szOf P e with
      | some s => match lowPa s ps.toList with
        | some ps' => some (.bld z ps')
        | none => none
      | none => none
    | _, _ => none
  | .buildSlice t n ps => match elemOf' P t with
    | some e => match szOf P e, zeroX P e, lowPb ps.toList with
      | some s, some z, some ps' => if n * s ≤ 16777216 ∧ z.length = s ∧ 0 < s then match lit s with
        | some s' => some (.bldS s' n z ps')
        | none => none
        else none
      | _, _, _ => none
    | none => none
  | .load t o => match lowX o, isAg P t, szOf P t with
    | some x, some false, some _ => some (.ld1 x)
    | some x, some true, some n => match lit n with
      | some m => some (.ldn m x)
      | none => none
    | _, _, _ => none
  | .store t o p => match lowX o, lowX p, szOf P t with
    | some x, some y, some s => match lit s with
      | some s' => some (.st s' x y)
      | none => none
    | _, _, _ => none
  | .nilCheck o => match lowX o with
    | some x => some (.nilck x)
    | none => none
  | .binOp op t o p _ => match lowX o, lowX p, nkOf (P.underlying t) with
    | some x, some y, .ptr => some (.bin .ptr op x y)
    | some x, some y, .sl => some (.bin .sl op x y)
    | some x, some y, .mp => some (.bin .mp op x y)
    | some x, some y, .bool => some (.bin .bool op x y)
    | some x, some y, .no => some (.bin .no op x y)
    | _, _, _ => none
  | .unOp op _ o => match lowX o with
    | some x => some (.un op x)
    | none => none
  | .convert a b o => match lowX o, P.underlying a, P.underlying b with
    | some x, some (.int _), some (.int k) => some (.cvI k x)
    | some x, some .string, some .string => some (.cvId x)
    | some x, some .string, some (.slice e) => match P.underlying e with
      | some (.int .u8) => some (.cvSB x)
      | _ => none
    | some x, some (.slice e), some .string => match P.underlying e with
      | some (.int .u8) => some (.cvBS x)
      | _ => none
    | some x, some (.slice e), some (.slice _) => if a = b then match P.underlying e with
      | some (.int .u8) => some (.cvO x)
      | _ => none
      else none
    | _, _, _ => none
  | .makeSlice t l c => match lowX l, lowX c, elemOf' P t with
    | some l', some c', some e => match P.info? e, zeroX P e with
      | some i, some z => match lit i.size, lit i.bytes with
        | some s, some b => if 0 < i.bytes ∧ z.length = i.size ∧ 0 < i.size then some (.mkS s b z l' c') else none
        | _, _ => none
      | _, _ => none
    | _, _, _ => none
  | .slice t o lo hi mx => match lowX o, P.underlying t, lowO lo, lowO hi, lowO mx with
    | some x, some .string, some lo', some hi', some none => match mx with
      | none => some (.slS x lo' hi')
      | some _ => none
    | some x, some (.slice e), some lo', some hi', some mx' => match szOf P e with
      | some s => match lit s with
        | some s' => some (.sl s' x lo' hi' mx')
        | none => none
      | none => none
    | _, _, _, _, _ => none
  | .fieldAddr t o f => match lowX o, P.underlying t with
    | some x, some (.struct fs) => match fs[f]? with
      | some fd => match szOf P fd.type with
        | some s => if s = 0 then none else match lit fd.offset with
          | some off => some (.fa off x)
          | none => none
        | none => none
      | none => none
    | _, _ => none
  | .field t o f => match lowX o, P.underlying t with
    | some x, some (.struct fs) => match fs[f]? with
      | some fd => match isAg P fd.type, szOf P fd.type, lit fd.offset with
        | some false, some _, some off => some (.fld1 off x)
        | some true, some n, some off => match lit n with
          | some m => some (.fldn off m x)
          | none => none
        | _, _, _ => none
      | none => none
    | _, _ => none
  | .indexAddr t o p => match lowX o, lowX p, P.underlying t with
    | some x, some i, some (.slice e) => match szOf P e with
      | some s => match lit s with
        | some s' => some (.ia s' x i)
        | none => none
      | none => none
    | some x, some i, some (.array n e) => match szOf P e with
      | some s => match lit s with
        | some s' => some (.iaP n s' x i)
        | none => none
      | none => none
    | _, _, _ => none
  | .index t o p => match lowX o, lowX p, P.underlying t with
    | some x, some i, some .string => some (.ix x i)
    | _, _, _ => none
  | .extract o i => match lowX o with
    | some x => some (.ext x i)
    | none => none
  | .call ⟨.value (.func f), as, _⟩ => match lowXs as.toList with
    | some as' => if hasBody P f = true then some (.call f as') else none
    | none => none
  | .call ⟨.builtin b, as, ts⟩ => lowerB P b as.toList ts
  | .makeMap t none => match P.underlying t with
    | some (.map _ _) => some .mkM
    | _ => none
  | .lookup t o p ok => match lowX o, lowX p, P.underlying t with
    | some x, some k, some (.map kt et) => match kkOf P kt, zeroVX P et with
      | some kk, some z => some (.look kk z ok x k)
      | _, _ => none
    | _, _, _ => none
  | .mapUpdate t m k v => match lowX m, lowX k, lowX v, P.underlying t with
    | some m', some k', some v', some (.map kt _) => match kkOf P kt with
      | some kk => some (.upd kk m' k' v')
      | none => none
    | _, _, _, _ => none
  | .insert t m k v => match lowX m, lowX k, lowX v, P.underlying t with
    | some m', some k', some v', some (.map kt _) => match kkOf P kt with
      | some kk => some (.upd kk m' k' v')
      | none => none
    | _, _, _, _ => none
  | _ => none
theorem lowerB_Lw {P : Program} {b : Builtin} {as : Array Operand} {ts : Array TypeId} {k : LK} (h : lowerB P b as.toList ts = some k) : Lw P (.call ⟨.builtin b, as, ts⟩) k := by
  generalize hl : as.toList = l at h
  unfold lowerB at h
  repeat' split at h
  all_goals first
    | cases h; done
    | skip
  all_goals simp only [Option.some.injEq] at h
  all_goals subst h
  · exact .lenStr (by assumption) hl (by assumption) (by assumption)
  · rename_i hu; exact .len (by assumption) hl (by assumption) hu (.inl ⟨_, rfl⟩)
  · rename_i hu; exact .len (by assumption) hl (by assumption) hu (.inr ⟨_, _, rfl⟩)
  · rename_i i z _ _ _ _ s b h1 h2 hc
    have e1 := lit_eq h1
    have e2 := lit_eq h2
    subst e1 e2
    exact .app (by assumption) (by assumption) hl (by assumption) (by assumption) (by assumption) (fun k e => by simp_all) (by assumption) (by assumption) (by assumption) hc.1 hc.2.1 hc.2.2
  · exact .min (by assumption) (by assumption) hl
  · exact .max (by assumption) (by assumption) hl
  · exact .del (by assumption) (by assumption) hl (by assumption) (by assumption) (by assumption)
theorem lowPs_lit : True := trivial
theorem lowerK_Lw {P : Program} {op : Op} {k : LK} (h : lowerK P op = some k) : Lw P op k := by
  unfold lowerK at h
  repeat' split at h
  all_goals first
    | cases h; done
    | skip
  all_goals first
    | (exact lowerB_Lw h)
    | skip
  all_goals simp only [Option.some.injEq] at h
  all_goals subst h
  all_goals first
    | (have e2 := lit_eq ‹lit (TypeInfo.bytes _) = some _›; have e1 := lit_eq ‹lit (TypeInfo.size _) = some _›; subst e1 e2; constructor <;> first | assumption | (simp_all; done))
    | (rename_i hn _ _ _ ho _ _ hn'; have e2 := lit_eq ho; have e3 := lit_eq hn'; subst e2 e3; exact .fldn (by assumption) (by assumption) (by assumption) (by assumption) (by assumption))
    | (have e2 := lit_eq ‹lit (Field.offset _) = some _›; subst e2; first | (have e3 := lit_eq ‹lit _ = some _›; subst e3; constructor <;> first | assumption | (simp_all; done)) | (constructor <;> first | assumption | (simp_all; done)))
    | (have e2 := lit_eq ‹lit _ = some _›; subst e2; constructor <;> first | assumption | (simp_all; done))
    | (have e2 := ‹nkOf _ = _›; rw [← e2]; constructor <;> first | assumption | (simp_all; done))
    | (constructor <;> first | assumption | (simp_all; done))
    | (exact .bldA (by assumption) (by assumption) (by assumption) (by assumption))
    | trace_state
end Go.Proofs.Ytgaaffanoegbhaa.Sym
