/- Texts of this claim, several in one: OpenP, Rl22, Rl23, SB7, SN1, SN2, SN3, SN4. -/
import Derived.Test.YteegdhfekemhmaaMgNetOrder11
import Derived.WideShapes
namespace Go.Proofs.Yteegdhfekemhmaa
open Go.RowKit Sim Go Sym Go.Deep
set_option linter.unusedVariables false
set_option linter.unusedSimpArgs false
inductive Ty where
  | bool
  | int (k : IntKind)
  | str
  | sl (s b : Nat) (e : Ty)
  | st (fs : List Ty)
def tysOf (f : TypeId → Option Ty) : List Field → Option (List Ty)
  | [] => some []
  | x :: l => match f x.type, tysOf f l with
    | some T, some r => some (T :: r)
    | _, _ => none
def offs (P : Program) : Nat → List Field → Option Nat
  | o, [] => some o
  | o, x :: l => if x.offset = o then offs P (o + P.cellsOf x.type) l else none
def tyOf (P : Program) : Nat → TypeId → Option Ty
  | 0, _ => none
  | n + 1, t => match P.underlying t with
    | some .bool => some .bool
    | some (.int k) => some (.int k)
    | some .string => some .str
    | some (.slice e) => match tyOf P n e with
      | some T => if 0 < P.cellsOf e ∧ 0 < P.bytesOf e then some (.sl (P.cellsOf e) (P.bytesOf e) T) else none
      | none => none
    | some (.struct fs) => match tysOf (tyOf P n) fs.toList with
      | some Ts => if offs P 0 fs.toList = some (P.cellsOf t) then some (.st Ts) else none
      | none => none
    | _ => none
mutual
def Is : Ty → PC → Prop
  | .bool, p => ∃ b, p = .bs b
  | .int k, p => ∃ n, p = .int k n ∧ k.min ≤ n ∧ n ≤ k.max
  | .str, p => ∃ l, p = .str l ∧ l.length ≤ 140737488351232 ∧ ∀ b ∈ l, b < 256
  | .sl s b e, p => ∃ z el, p = .tz z s el none ∧ el.length * b ≤ 140737488351232 ∧ ∀ x ∈ el, Is e x
  | .st fs, p => ∃ l, p = .agg l ∧ IsL fs l
def IsL : List Ty → List PC → Prop
  | [], l => l = []
  | T :: Ts, l => ∃ p r, Is T p ∧ l = p.cells ++ r ∧ IsL Ts r
end
theorem Is.sl {s b : Nat} {e : Ty} {p : PC} (h : Is (.sl s b e) p) : ∃ z el, p = .tz z s el none ∧ el.length * b ≤ 140737488351232 ∧ ∀ x ∈ el, Is e x := by simpa only [Is] using h
theorem Is.int {k : IntKind} {p : PC} (h : Is (.int k) p) : ∃ n, p = .int k n ∧ k.min ≤ n ∧ n ≤ k.max := by simpa only [Is] using h
theorem Is.bool {p : PC} (h : Is .bool p) : ∃ b, p = .bs b := by simpa only [Is] using h
theorem Is.str {p : PC} (h : Is .str p) : ∃ l, p = .str l ∧ l.length ≤ 140737488351232 ∧ ∀ b ∈ l, b < 256 := by simpa only [Is] using h
theorem Is.st {fs : List Ty} {p : PC} (h : Is (.st fs) p) : ∃ l, p = .agg l ∧ IsL fs l := by simpa only [Is] using h
theorem IsL.nil {l : List PC} (h : IsL [] l) : l = [] := by simpa only [IsL] using h
theorem IsL.cons {T : Ty} {Ts : List Ty} {l : List PC} (h : IsL (T :: Ts) l) : ∃ p r, Is T p ∧ l = p.cells ++ r ∧ IsL Ts r := by simpa only [IsL] using h
theorem i64_rng {n : Int} (h : IntKind.i64.min ≤ n ∧ n ≤ IntKind.i64.max) : -9223372036854775808 ≤ n ∧ n ≤ 9223372036854775807 := by
  have h1 : IntKind.i64.min = -9223372036854775808 := by decide
  have h2 : IntKind.i64.max = 9223372036854775807 := by decide
  omega
theorem u8_rng {n : Int} (h : IntKind.u8.min ≤ n ∧ n ≤ IntKind.u8.max) : 0 ≤ n ∧ n < 256 := by
  have h1 : IntKind.u8.min = 0 := by decide
  have h2 : IntKind.u8.max = 255 := by decide
  omega
theorem Is.i64 {p : PC} (h : Is (.int .i64) p) : ∃ n, p = .int .i64 n ∧ -9223372036854775808 ≤ n ∧ n ≤ 9223372036854775807 := by
  obtain ⟨n, h1, h2⟩ := h.int
  exact ⟨n, h1, i64_rng h2⟩
theorem lift {α : Type} {T : Ty} {f : α → PC} {ok : α → Prop} (h : ∀ p, Is T p → ∃ a, p = f a ∧ ok a) : ∀ {el : List PC}, (∀ x ∈ el, Is T x) → ∃ l : List α, el = l.map f ∧ ∀ a ∈ l, ok a
  | [], _ => ⟨[], rfl, (fun a ha => by cases ha)⟩
  | x :: el, hx => by
    obtain ⟨a, rfl, ha⟩ := h x (hx x (by simp))
    have hx' : ∀ y ∈ el, Is T y := fun y hy => hx y (List.mem_cons_of_mem _ hy)
    obtain ⟨l, rfl, hl⟩ := lift h hx'
    exact ⟨a :: l, rfl, fun b hb => by
      rcases List.mem_cons.1 hb with rfl | hb
      · exact ha
      · exact hl b hb⟩
theorem Is.bytes {p : PC} (h : Is (.sl 1 1 (.int .u8)) p) : ∃ z l, p = .tz z 1 (byP l) none ∧ l.length ≤ 140737488351232 ∧ ∀ b ∈ l, b < 256 := by
  obtain ⟨z, el, rfl, h1, h2⟩ := h.sl
  obtain ⟨l, rfl, h3⟩ := lift (f := fun (b : Nat) => PC.int .u8 b) (ok := fun b => b < 256) (fun p hp => by
    obtain ⟨n, rfl, hn⟩ := hp.int
    have := u8_rng hn
    exact ⟨n.toNat, by rw [show ((n.toNat : Nat) : Int) = n by omega], by omega⟩) h2
  exact ⟨z, l, rfl, by simpa using h1, h3⟩
theorem Is.ints {p : PC} (h : Is (.sl 1 8 (.int .i64)) p) : ∃ z l, p = .tz z 1 (inP l) none ∧ l.length ≤ 17592186043904 ∧ ∀ i ∈ l, -9223372036854775808 ≤ i ∧ i ≤ 9223372036854775807 := by
  obtain ⟨z, el, rfl, h1, h2⟩ := h.sl
  obtain ⟨l, rfl, h3⟩ := lift (f := fun (i : Int) => PC.int .i64 i) (ok := fun i => -9223372036854775808 ≤ i ∧ i ≤ 9223372036854775807) (fun p hp => by
    obtain ⟨n, rfl, hn⟩ := hp.i64
    exact ⟨n, rfl, hn⟩) h2
  exact ⟨z, l, rfl, by simp at h1; omega, h3⟩
section
variable {H : Type} {enc : TypeId × Value → H} {P : Program} {w : World} {base : Nat} {held : Bool}
theorem flatE_all2 {φ : Ph} {s : Nat} : ∀ {el : List PC} {css : List (List Value)}, (∀ p ∈ el, p.cells.all PC.one = true) → (∀ c ∈ css, c.length = s) → All2 (fun (p : PC) c => All2 (CR φ) (p.cells.map PC.sc) c) el css → All2 (CR φ) (flatE s el) css.flatten
  | [], [], _, _, _ => by simp [flatE, All2]
  | p :: el, c :: css, h1, h2, h => by
    have hc := h2 c (by simp)
    have hl := h.1.length
    rw [List.flatten_cons, flatE, PC.flat_cells (h1 p (by simp)), fit_eq (by simpa [hc] using hl)]
    exact All2.app h.1 (flatE_all2 (fun q hq => h1 q (by simp [hq])) (fun q hq => h2 q (by simp [hq])) h.2)
theorem All2.all_exists {α β : Type} {R : α → β → Prop} : ∀ {y : List β}, (∀ b ∈ y, ∃ a, R a b) → ∃ x, All2 R x y
  | [], _ => ⟨[], trivial⟩
  | b :: y, h => by
    obtain ⟨a, ha⟩ := h b (by simp)
    obtain ⟨x, hx⟩ := All2.all_exists (y := y) fun c hc => h c (by simp [hc])
    exact ⟨a :: x, ha, hx⟩
theorem All2.left {α β : Type} {R : α → β → Prop} {S : α → Prop} : ∀ {x : List α} {y : List β}, All2 (fun a b => S a ∧ R a b) x y → (∀ a ∈ x, S a) ∧ All2 R x y
  | [], [], _ => ⟨(fun a h => by cases h), trivial⟩
  | a :: x, b :: y, h => by
    obtain ⟨h1, h2⟩ := All2.left h.2
    exact ⟨fun c hc => by
      rcases List.mem_cons.1 hc with rfl | hc
      · exact h.1.1
      · exact h1 c hc, h.1.2, h2⟩
theorem openP_fields {n : Nat} {cs : List Value} {m : Nat}
    (ih : ∀ {t : TypeId} {T : Ty}, tyOf P n t = some T → ∀ {fuel : Nat} {cs : List Value} {x : DataW H × List MemPlace}, DataW.trod enc P w base (fun _ => true) held fuel t cs = some x → (∀ k ∈ x.1.weights P t, k ≤ reachBytes) → ∃ p, (Is T p ∧ p.cells.all PC.one = true) ∧ All2 (CR (startP w)) (p.cells.map PC.sc) cs) :
    ∀ (fs : List Field) (Ts : List Ty) (o : Nat), tysOf (tyOf P n) fs = some Ts → offs P o fs = some cs.length →
      (∀ f ∈ fs, ∃ (m : Nat) (y : DataW H × List MemPlace), DataW.trod enc P w base (fun _ => true) held m f.type ((cs.drop f.offset).take (P.cellsOf f.type)) = some y ∧ ∀ k ∈ y.1.weights P f.type, k ≤ reachBytes) →
      ∃ l, (IsL Ts l ∧ l.all PC.one = true) ∧ All2 (CR (startP w)) (l.map PC.sc) (cs.drop o)
  | [], Ts, o, h1, h2, _ => by
    simp only [tysOf, Option.some.injEq] at h1
    subst h1
    simp only [offs, Option.some.injEq] at h2
    subst h2
    exact ⟨[], ⟨by simp only [IsL], rfl⟩, by simp [All2]⟩
  | f :: fs, Ts, o, h1, h2, h3 => by
    simp only [tysOf] at h1
    split at h1
    · rename_i T r hT hr
      simp only [Option.some.injEq] at h1
      subst h1
      simp only [offs] at h2
      split at h2
      · rename_i ho
        obtain ⟨m, y, g1, g2⟩ := h3 f (by simp)
        obtain ⟨p, ⟨q1, q2⟩, q3⟩ := ih hT g1 g2
        obtain ⟨l, ⟨r1, r2⟩, r3⟩ := openP_fields (m := m) ih fs r _ hr h2 (fun f' hf' => h3 f' (by simp [hf']))
        refine ⟨p.cells ++ l, ⟨by simp only [IsL]; exact ⟨p, l, q1, rfl, r1⟩, by simp [List.all_append, q2, r2]⟩, ?_⟩
        rw [List.map_append, ← List.take_append_drop (P.cellsOf f.type) (cs.drop o), List.drop_drop]
        rw [ho] at q3
        exact All2.app q3 r3
      · cases h2
    · cases h1
theorem openP_cells : ∀ (n : Nat) {t : TypeId} {T : Ty}, tyOf P n t = some T → ∀ {fuel : Nat} {cs : List Value} {x : DataW H × List MemPlace}, DataW.trod enc P w base (fun _ => true) held fuel t cs = some x → (∀ k ∈ x.1.weights P t, k ≤ reachBytes) → ∃ p, (Is T p ∧ p.cells.all PC.one = true) ∧ All2 (CR (startP w)) (p.cells.map PC.sc) cs
  | 0, t, T, h, _, _, _, _, _ => by simp [tyOf] at h
  | n + 1, t, T, h, fuel, cs, x, hx, hw => by
    simp only [tyOf] at h
    split at h
    · rename_i hu
      simp only [Option.some.injEq] at h; subst h
      obtain ⟨b, rfl, _⟩ := DataW.trod_bool hu hx
      exact ⟨.bs b, ⟨by simp [Is], rfl⟩, by simp [All2, PC.cells, PC.sc, CR]⟩
    · rename_i k hu
      simp only [Option.some.injEq] at h; subst h
      obtain ⟨q, rfl, _, hq⟩ := DataW.trod_int hu hx
      simp only [Lit.wf, Bool.and_eq_true, decide_eq_true_eq] at hq
      exact ⟨.int k q, ⟨by simp [Is, hq], rfl⟩, by simp [All2, PC.cells, PC.sc, CR]⟩
    · rename_i hu
      simp only [Option.some.injEq] at h; subst h
      obtain ⟨s, rfl, rfl, hsz⟩ := DataW.trod_string hu hx
      refine ⟨.str (s.data.toList.map UInt8.toNat), ⟨?_, rfl⟩, ?_⟩
      · simp only [Is]
        refine ⟨_, rfl, ?_, fun b hb => ?_⟩
        · have := hw s.data.toList.length (by simp [DataW.weights])
          simpa [reachBytes] using this
        · obtain ⟨y, _, rfl⟩ := List.mem_map.1 hb
          exact y.toNat_lt
      · refine ⟨?_, trivial⟩
        simp only [PC.sc, CR]
        exact ⟨s, rfl, rfl⟩
    · rename_i e hu
      split at h
      · rename_i T' hT
        split at h
        · rename_i hpos
          simp only [Option.some.injEq] at h; subst h
          obtain ⟨v, rfl⟩ : ∃ v, cs = [v] := by
            rcases open_slice hu hx with ⟨h0, _⟩ | ⟨a, len, cap, _, _, _, _, h0, _⟩
            · exact ⟨_, h0⟩
            · exact ⟨_, h0⟩
          obtain ⟨css, hr, hb, hel⟩ := openL_slice hu rfl hpos.1 hpos.2 hx hw
          obtain ⟨el, hall⟩ := All2.all_exists (R := fun (p : PC) c => (Is T' p ∧ p.cells.all PC.one = true) ∧ All2 (CR (startP w)) (p.cells.map PC.sc) c) (y := css) (fun c hc => by
            obtain ⟨_, m, y, g1, g2⟩ := hel c hc
            exact openP_cells n hT g1 g2)
          obtain ⟨a1, a2⟩ := All2.left hall
          have hlen := a2.length
          have hfl := flatE_all2 (fun p hp => (a1 p hp).2) (fun c hc => (hel c hc).1) a2
          obtain ⟨z, hz⟩ := Rd.tz hr hlen (fun j x hx => hfl.get hx)
          refine ⟨.tz z (P.cellsOf e) el none, ⟨?_, rfl⟩, hz, trivial⟩
          simp only [Is]
          exact ⟨z, el, rfl, by rw [hlen]; exact hb, fun x hx => (a1 x hx).1⟩
        · cases h
      · cases h
    · rename_i fs hu
      split at h
      · rename_i Ts hT
        split at h
        · rename_i ho
          simp only [Option.some.injEq] at h; subst h
          obtain ⟨hl, hf⟩ := openL_struct hu hx hw
          obtain ⟨l, ⟨r1, r2⟩, r3⟩ := openP_fields (m := 0) (fun {t} {T} h => @openP_cells n t T h) fs.toList Ts 0 hT (by rw [hl]; exact ho) (fun f hf' => by
            obtain ⟨i, hi⟩ := List.getElem?_of_mem hf'
            rw [Array.getElem?_toList] at hi
            exact hf i f hi)
          rw [List.drop_zero] at r3
          exact ⟨.agg l, ⟨by simp only [Is]; exact ⟨l, rfl, r1⟩, r2⟩, r3⟩
        · cases h
      · cases h
    · cases h
def xvP : PC → XV
  | .agg l => .agg (l.map XC.p)
  | x => .c (.p x)
theorem openP {n : Nat} {t : TypeId} {T : Ty} (hT : tyOf P n t = some T) {b0 : Nat} {v : Value} {d : DataW H} {ps : List MemPlace} (hval : Value.okWide P w .any b0 t v) (h : DataW.Trod enc P w base (fun _ => true) held t v d ps) (hw : ∀ n ∈ d.weights P t, n ≤ reachBytes) : ∃ p, Is T p ∧ VR (startP w) (xvP p).sv v := by
  obtain ⟨fuel, hf⟩ := h
  obtain ⟨p, ⟨h1, h2⟩, h3⟩ := openP_cells n hT hf hw
  refine ⟨p, h1, ?_⟩
  cases n with
  | zero => simp [tyOf] at hT
  | succ n =>
    simp only [tyOf] at hT
    split at hT
    · rename_i hu
      simp only [Option.some.injEq] at hT; subst hT
      obtain ⟨b, rfl⟩ := h1.bool
      obtain ⟨b', rfl⟩ : ∃ b', v = .bool b' := by
        simp only [Value.okWide, hu, Cell.okWide] at hval
        cases v <;> simp_all [Cell.ok]
      exact h3.1
    · rename_i k hu
      simp only [Option.some.injEq] at hT; subst hT
      obtain ⟨q, rfl, _⟩ := h1.int
      obtain ⟨m, rfl⟩ := WideShapes.okWide_int hu hval
      exact h3.1
    · rename_i hu
      simp only [Option.some.injEq] at hT; subst hT
      obtain ⟨q, rfl, _⟩ := h1.str
      obtain ⟨m, rfl⟩ := WideShapes.okWide_string hu hval
      exact h3.1
    · rename_i e hu
      split at hT
      · split at hT
        · simp only [Option.some.injEq] at hT; subst hT
          obtain ⟨z, el, rfl, _⟩ := h1.sl
          obtain ⟨a, l, c, rfl⟩ := WideShapes.okWide_slice hu hval
          exact h3.1
        · cases hT
      · cases hT
    · rename_i fs hu
      split at hT
      · split at hT
        · simp only [Option.some.injEq] at hT; subst hT
          obtain ⟨l, rfl, _⟩ := h1.st
          obtain ⟨cs, rfl, hcs⟩ := WideShapes.okWide_struct hu hval
          refine ⟨cs, rfl, ?_⟩
          simpa [PC.cells, Function.comp_def, XC.sc, Value.cells] using h3
        · cases hT
      · cases hT
    · cases hT
end
end Go.Proofs.Yteegdhfekemhmaa

namespace Go.Proofs.Yteegdhfekemhmaa
open Go.RowKit Sim Go Sym
set_option maxRecDepth 100000
set_option linter.unusedVariables false
set_option linter.unusedSimpArgs false
variable {base : Nat} {B : Nat} {L R : PLog}
structure LOpr where
  kd : Int
  i : Int
  ez : Bool
  es : List Ent
  s : Snp
  bz : Bool
  b : List Nat
def LOpr.cs (o : LOpr) : List PC := [.int .i64 o.kd, .int .i64 o.i, .tz o.ez 4 (entP o.es) none, .int .i64 o.s.ix, .int .i64 o.s.tm, .tz o.s.cz 1 (inP o.s.cf) o.s.cc, .tz o.s.dz 1 (byP o.s.d) o.s.dc, .tz o.bz 1 (byP o.b) none]
def LOpr.pc (o : LOpr) : PC := .agg o.cs
structure LOpr.raw (o : LOpr) : Prop where
  i : I64 o.i
  es : o.es.length ≤ 100000000000000 ∧ ∀ e ∈ o.es, e.raw
  s : o.s.raw
  b : ∀ x ∈ o.b, x < 256
noncomputable def lAll : {F : LF // lowerF Try.prog 10 = some F} := ⟨_, rfl⟩
def opP (l : List LOpr) : List PC := l.map LOpr.pc
theorem opP_len (l : List LOpr) : (opP l).length = l.length := by simp [opP]
theorem all_loop (z : Bool) (c : Option Nat) (ops : List LOpr) (hops : ∀ o ∈ ops, o.raw) (hl : ops.length ≤ 100000000000000) (Q : QX) (hq : Q (.exit 0) [] ⟨[], 0⟩) :
    ∀ (rest pre : List LOpr) (L R : PLog), ops = pre ++ rest → pre.length ≤ 20 → Rel (20 + 8 * pre.length) L R → XH Try.prog base lAll.1.n 0 (lAll.1.c.lp 0) [(2, .c (.p (.tz z 8 (opP ops) c))), (8, .c (.ptr 0 0)), (9, .c (.ptr 1 0)), (10, .c (.p (.int .i64 pre.length)))] (H2 L R) Q := by
  intro rest
  induction rest with
  | nil =>
    intro pre L R hp hn h
    simp at hp
    subst hp
    refine M.round (M.go rfl ?_)
    refine M.dec rfl (fun hc => absurd hc (by rw [opP_len]; omega)) (fun hc => ?_)
    refine M.go rfl ?_
    refine M.ren [] ?_ trivial rfl (by repeat' (first | exact True.intro | refine ⟨⟨_, _, rfl, rfl, Wk.rfl⟩, ?_⟩ | refine ⟨⟨_, _, accV_ren rfl, rfl, Wk.rfl⟩, ?_⟩ | refine ⟨⟨_, _, accV_ren rfl, rfl, Wk.acc0⟩, ?_⟩ | refine ⟨⟨_, _, rfl, rfl, Wk.uncap⟩, ?_⟩ | refine ⟨⟨_, _, rfl, rfl, Wk.nil⟩, ?_⟩)) (by repeat' (first | exact True.intro | refine ⟨⟨_, _, _, rfl, rfl, rfl, WkO.rfl⟩, ?_⟩ | refine HeapOK.acc rfl rfl ?_ | refine HeapOK.es rfl rfl ?_)) (e' := []) (h' := ⟨[], 0⟩)
    exact M.exit (M.go rfl (M.done hq))
  | cons o rest ih =>
    intro pre L R hp hn h
    have hlen : (opP ops).length = pre.length + (rest.length + 1) := by rw [hp]; simp [opP]
    have hu : (opP ops)[((pre.length : Int)).toNat]? = some o.pc := by rw [hp]; exact at_app _ _ _ _
    have ho : o.raw := hops o (by rw [hp]; simp)
    have hll : pre.length + rest.length < 100000000000000 := by rw [hp] at hl; simp at hl; omega
    refine M.round (M.go rfl ?_)
    refine M.dec rfl (fun hc => ?_) (fun hc => absurd (by omega) hc)
    refine M.go rfl ?_
    refine M.cond rfl (fun hc20 => ?_) (fun hc20 => ?_)
    · refine M.go rfl ?_
      refine M.op trivial (SOp.ia rfl rfl (by omega) hu) ?_
      refine M.op trivial (SOp.ldne rfl hu rfl rfl rfl) ?_
      refine M.go rfl ?_
      have hw2 : IntKind.i64.wrap ((pre.length : Int) + 1) = ((pre ++ [o]).length : Int) := by rw [wr64 (by omega) (by omega)]; simp
      have ih' := fun L R h => ih (pre ++ [o]) L R (by rw [hp]; simp) (by simp; omega) h
      have hB : 20 + 8 * pre.length ≤ 1000 := by omega
      have hB' : 20 + 8 * (pre ++ [o]).length = 20 + 8 * pre.length + 8 := by simp; omega
      have hmax : L.last < 9223372036854775807 := by have := h.top; omega
      have hmaxR : R.last < 9223372036854775807 := by rw [h.lastE]; exact hmax
      refine M.cond rfl (fun hk => ?_) (fun hk => ?_)
      · refine M.go rfl ?_
        refine M.use0 trivial (CutEntries_spec o.ez none o.es 8 ho.es.1 (by omega)) rfl rfl rfl ?_
        refine M.go rfl ?_
        obtain ⟨X, hX⟩ : ∃ X, X = cutEs o.es 8 := ⟨_, rfl⟩
        have hXok : ∀ e ∈ X, e.ok := by rw [hX]; exact cutEs_ok ho.es.2
        have hXl : X.length ≤ 8 := by rw [hX]; exact cutEs_len _ _
        rw [← hX]
        cases X with
        | nil =>
          refine M.use (by first | exact True.intro | exact rfl) (Put_nil L true none) [(0, 0)] rfl rfl rfl (by repeat' (first | exact True.intro | refine ⟨⟨_, _, _, rfl, rfl, rfl, WkO.rfl⟩, ?_⟩ | refine HeapOK.acc rfl rfl ?_ | refine HeapOK.es rfl rfl ?_)) rfl rfl ?_
          refine M.go rfl ?_
          refine M.use (by first | exact True.intro | exact rfl) (RPut_nil R true none) [(0, 1)] rfl rfl rfl (by repeat' (first | exact True.intro | refine ⟨⟨_, _, _, rfl, rfl, rfl, WkO.rfl⟩, ?_⟩ | refine HeapOK.acc rfl rfl ?_ | refine HeapOK.es rfl rfl ?_)) rfl rfl ?_
          refine M.go rfl ?_
          refine M.condB rfl (fun hn => by simp at hn) (fun _ => ?_)
          refine M.go rfl ?_
          refine M.use (by first | exact True.intro | exact rfl) (same_spec h hB) [(0, 0), (1, 1)] rfl rfl rfl (by repeat' (first | exact True.intro | refine ⟨⟨_, _, _, rfl, rfl, rfl, WkO.rfl⟩, ?_⟩ | refine HeapOK.acc rfl rfl ?_ | refine HeapOK.es rfl rfl ?_)) rfl rfl ?_
          refine M.go rfl ?_
          rw [hw2]
          exact M.again (XH.ren [(0, 0), (1, 1)] (ih' _ _ (by rw [hB']; exact h.mono (by omega))) rfl (by repeat' (first | exact True.intro | refine ⟨⟨_, _, rfl, rfl, Wk.rfl⟩, ?_⟩ | refine ⟨⟨_, _, accV_ren rfl, rfl, Wk.rfl⟩, ?_⟩ | refine ⟨⟨_, _, accV_ren rfl, rfl, Wk.acc0⟩, ?_⟩ | refine ⟨⟨_, _, rfl, rfl, Wk.uncap⟩, ?_⟩ | refine ⟨⟨_, _, rfl, rfl, Wk.nil⟩, ?_⟩)) (by repeat' (first | exact True.intro | refine ⟨⟨_, _, _, rfl, rfl, rfl, WkO.rfl⟩, ?_⟩ | refine HeapOK.acc rfl rfl ?_ | refine HeapOK.es rfl rfl ?_)))
        | cons e l =>
          have hpe := h.putE hB e l hXl
          by_cases hy : R.rputOk (e :: l) = true
          · refine M.use (by first | exact True.intro | exact rfl) (Put_yes L h.hL hmax true none e l (by omega) hXok (by rw [hpe]; exact hy)) [(0, 0)] rfl rfl rfl (by repeat' (first | exact True.intro | refine ⟨⟨_, _, _, rfl, rfl, rfl, WkO.rfl⟩, ?_⟩ | refine HeapOK.acc rfl rfl ?_ | refine HeapOK.es rfl rfl ?_)) rfl rfl ?_
            refine M.go rfl ?_
            refine M.use (by first | exact True.intro | exact rfl) (RPut_yes R h.hR hmaxR true none e l (by omega) hXok hy) [(0, 1)] rfl rfl rfl (by repeat' (first | exact True.intro | refine ⟨⟨_, _, _, rfl, rfl, rfl, WkO.rfl⟩, ?_⟩ | refine HeapOK.acc rfl rfl ?_ | refine HeapOK.es rfl rfl ?_)) rfl rfl ?_
            refine M.go rfl ?_
            refine M.condB rfl (fun hn => by simp at hn) (fun _ => ?_)
            refine M.go rfl ?_
            have h' := h.put hB e l hXl hXok hy
            refine M.use (by first | exact True.intro | exact rfl) (same_spec h' (by omega)) [(0, 0), (1, 1)] rfl rfl rfl (by repeat' (first | exact True.intro | refine ⟨⟨_, _, _, rfl, rfl, rfl, WkO.rfl⟩, ?_⟩ | refine HeapOK.acc rfl rfl ?_ | refine HeapOK.es rfl rfl ?_)) rfl rfl ?_
            refine M.go rfl ?_
            rw [hw2]
            exact M.again (XH.ren [(0, 0), (1, 1)] (ih' _ _ (by rw [hB']; exact h')) rfl (by repeat' (first | exact True.intro | refine ⟨⟨_, _, rfl, rfl, Wk.rfl⟩, ?_⟩ | refine ⟨⟨_, _, accV_ren rfl, rfl, Wk.rfl⟩, ?_⟩ | refine ⟨⟨_, _, accV_ren rfl, rfl, Wk.acc0⟩, ?_⟩ | refine ⟨⟨_, _, rfl, rfl, Wk.uncap⟩, ?_⟩ | refine ⟨⟨_, _, rfl, rfl, Wk.nil⟩, ?_⟩)) (by repeat' (first | exact True.intro | refine ⟨⟨_, _, _, rfl, rfl, rfl, WkO.rfl⟩, ?_⟩ | refine HeapOK.acc rfl rfl ?_ | refine HeapOK.es rfl rfl ?_)))
          · have hy' : R.rputOk (e :: l) = false := by simpa using hy
            refine M.use (by first | exact True.intro | exact rfl) (Put_no L h.hL hmax true none e l (by omega) hXok (by rw [hpe]; exact hy')) [(0, 0)] rfl rfl rfl (by repeat' (first | exact True.intro | refine ⟨⟨_, _, _, rfl, rfl, rfl, WkO.rfl⟩, ?_⟩ | refine HeapOK.acc rfl rfl ?_ | refine HeapOK.es rfl rfl ?_)) rfl rfl ?_
            refine M.go rfl ?_
            refine M.use (by first | exact True.intro | exact rfl) (RPut_no R h.hR hmaxR true none e l (by omega) hXok hy') [(0, 1)] rfl rfl rfl (by repeat' (first | exact True.intro | refine ⟨⟨_, _, _, rfl, rfl, rfl, WkO.rfl⟩, ?_⟩ | refine HeapOK.acc rfl rfl ?_ | refine HeapOK.es rfl rfl ?_)) rfl rfl ?_
            refine M.go rfl ?_
            refine M.condB rfl (fun hn => by simp at hn) (fun _ => ?_)
            refine M.go rfl ?_
            refine M.use (by first | exact True.intro | exact rfl) (same_spec h hB) [(0, 0), (1, 1)] rfl rfl rfl (by repeat' (first | exact True.intro | refine ⟨⟨_, _, _, rfl, rfl, rfl, WkO.rfl⟩, ?_⟩ | refine HeapOK.acc rfl rfl ?_ | refine HeapOK.es rfl rfl ?_)) rfl rfl ?_
            refine M.go rfl ?_
            rw [hw2]
            exact M.again (XH.ren [(0, 0), (1, 1)] (ih' _ _ (by rw [hB']; exact h.mono (by omega))) rfl (by repeat' (first | exact True.intro | refine ⟨⟨_, _, rfl, rfl, Wk.rfl⟩, ?_⟩ | refine ⟨⟨_, _, accV_ren rfl, rfl, Wk.rfl⟩, ?_⟩ | refine ⟨⟨_, _, accV_ren rfl, rfl, Wk.acc0⟩, ?_⟩ | refine ⟨⟨_, _, rfl, rfl, Wk.uncap⟩, ?_⟩ | refine ⟨⟨_, _, rfl, rfl, Wk.nil⟩, ?_⟩)) (by repeat' (first | exact True.intro | refine ⟨⟨_, _, _, rfl, rfl, rfl, WkO.rfl⟩, ?_⟩ | refine HeapOK.acc rfl rfl ?_ | refine HeapOK.es rfl rfl ?_)))
      · refine M.go rfl ?_
        refine M.cond rfl (fun hk => ?_) (fun hk => ?_)
        · refine M.go rfl ?_
          refine M.use0 trivial (short_spec o.bz (byP o.b) none 50 (by omega)) rfl rfl rfl ?_
          refine M.go rfl ?_
          rw [byP_take]
          have hd : okB (o.b.take 50) := ⟨by simp; omega, fun b hb => ho.b b (List.mem_of_mem_take hb)⟩
          by_cases hno : o.i ≤ L.S.ix ∨ L.last < o.i
          · refine M.regF (MF.go rfl ?_)
            refine MF.use (by first | exact True.intro | exact rfl) (Comp_no L h.hL o.i ho.i o.bz (o.b.take 50) none hno) [(0, 0)] rfl rfl rfl (by repeat' (first | exact True.intro | refine ⟨⟨_, _, _, rfl, rfl, rfl, WkO.rfl⟩, ?_⟩ | refine HeapOK.acc rfl rfl ?_ | refine HeapOK.es rfl rfl ?_)) rfl rfl (MF.go rfl ?_)
            refine MF.use (by first | exact True.intro | exact rfl) (RComp_no R h.hR o.i ho.i o.bz (o.b.take 50) none (by rw [← h.ix, h.lastE]; exact hno)) [(0, 1)] rfl rfl rfl (by repeat' (first | exact True.intro | refine ⟨⟨_, _, _, rfl, rfl, rfl, WkO.rfl⟩, ?_⟩ | refine HeapOK.acc rfl rfl ?_ | refine HeapOK.es rfl rfl ?_)) rfl rfl (MF.go rfl ?_)
            refine MF.nil mixed (Fnl.nodup rfl) rfl ⟨⟨stepX_ok rfl, trivial⟩, trivial⟩ (M.go rfl ?_)
            refine M.condB rfl (fun hn => by simp at hn) (fun _ => ?_)
            refine M.go rfl ?_
            refine M.use (by first | exact True.intro | exact rfl) (same_spec h hB) [(0, 0), (1, 1)] rfl rfl rfl (by repeat' (first | exact True.intro | refine ⟨⟨_, _, _, rfl, rfl, rfl, WkO.rfl⟩, ?_⟩ | refine HeapOK.acc rfl rfl ?_ | refine HeapOK.es rfl rfl ?_)) rfl rfl ?_
            refine M.go rfl ?_
            rw [hw2]
            exact M.again (XH.ren [(0, 0), (1, 1)] (ih' _ _ (by rw [hB']; exact h.mono (by omega))) rfl (by repeat' (first | exact True.intro | refine ⟨⟨_, _, rfl, rfl, Wk.rfl⟩, ?_⟩ | refine ⟨⟨_, _, accV_ren rfl, rfl, Wk.rfl⟩, ?_⟩ | refine ⟨⟨_, _, accV_ren rfl, rfl, Wk.acc0⟩, ?_⟩ | refine ⟨⟨_, _, rfl, rfl, Wk.uncap⟩, ?_⟩ | refine ⟨⟨_, _, rfl, rfl, Wk.nil⟩, ?_⟩)) (by repeat' (first | exact True.intro | refine ⟨⟨_, _, _, rfl, rfl, rfl, WkO.rfl⟩, ?_⟩ | refine HeapOK.acc rfl rfl ?_ | refine HeapOK.es rfl rfl ?_)))
          · have h1 : L.S.ix < o.i := by omega
            have h3 : o.i ≤ L.last := by omega
            refine M.regF (MF.go rfl ?_)
            refine MF.use (by first | exact True.intro | exact rfl) (Comp_yes L h.hL o.i ho.i o.bz (o.b.take 50) none hd h1 h3) [(0, 0)] rfl rfl rfl (by repeat' (first | exact True.intro | refine ⟨⟨_, _, _, rfl, rfl, rfl, WkO.rfl⟩, ?_⟩ | refine HeapOK.acc rfl rfl ?_ | refine HeapOK.es rfl rfl ?_)) rfl rfl (MF.go rfl ?_)
            refine MF.use (by first | exact True.intro | exact rfl) (RComp_yes R h.hR o.i ho.i o.bz (o.b.take 50) none hd (by rw [← h.ix]; exact h1) (by rw [h.lastE]; exact h3)) [(0, 1)] rfl rfl rfl (by repeat' (first | exact True.intro | refine ⟨⟨_, _, _, rfl, rfl, rfl, WkO.rfl⟩, ?_⟩ | refine HeapOK.acc rfl rfl ?_ | refine HeapOK.es rfl rfl ?_)) rfl rfl (MF.go rfl ?_)
            refine MF.nil mixed (Fnl.nodup rfl) rfl ⟨⟨stepX_ok rfl, trivial⟩, trivial⟩ (M.go rfl ?_)
            refine M.condB rfl (fun hn => by simp at hn) (fun _ => ?_)
            refine M.go rfl ?_
            have h' := h.compact hB o.i o.bz (o.b.take 50) hd h1 h3
            refine M.use (by first | exact True.intro | exact rfl) (same_spec h' hB) [(0, 0), (1, 1)] rfl rfl rfl (by repeat' (first | exact True.intro | refine ⟨⟨_, _, _, rfl, rfl, rfl, WkO.rfl⟩, ?_⟩ | refine HeapOK.acc rfl rfl ?_ | refine HeapOK.es rfl rfl ?_)) rfl rfl ?_
            refine M.go rfl ?_
            rw [hw2]
            exact M.again (XH.ren [(0, 0), (1, 1)] (ih' _ _ (by rw [hB']; exact h'.mono (by omega))) rfl (by repeat' (first | exact True.intro | refine ⟨⟨_, _, rfl, rfl, Wk.rfl⟩, ?_⟩ | refine ⟨⟨_, _, accV_ren rfl, rfl, Wk.rfl⟩, ?_⟩ | refine ⟨⟨_, _, accV_ren rfl, rfl, Wk.acc0⟩, ?_⟩ | refine ⟨⟨_, _, rfl, rfl, Wk.uncap⟩, ?_⟩ | refine ⟨⟨_, _, rfl, rfl, Wk.nil⟩, ?_⟩)) (by repeat' (first | exact True.intro | refine ⟨⟨_, _, _, rfl, rfl, rfl, WkO.rfl⟩, ?_⟩ | refine HeapOK.acc rfl rfl ?_ | refine HeapOK.es rfl rfl ?_)))
        · refine M.go rfl ?_
          refine M.use0 trivial (CutSnap_spec o.s ho.s.cf.1) rfl rfl rfl ?_
          obtain ⟨s, hs⟩ : ∃ s, s = o.s.cut := ⟨_, rfl⟩
          have hsk : s.ok := by rw [hs]; exact ho.s.cut
          rw [← hs]
          refine M.go rfl ?_
          refine M.dec rfl (fun h1 => ?_) (fun h1 => ?_)
          · refine M.go rfl ?_
            refine M.exit (M.go rfl ?_)
            rw [hw2]
            exact M.again (XH.ren [(0, 0), (1, 1)] (ih' _ _ (by rw [hB']; exact h.mono (by omega))) rfl (by repeat' (first | exact True.intro | refine ⟨⟨_, _, rfl, rfl, Wk.rfl⟩, ?_⟩ | refine ⟨⟨_, _, accV_ren rfl, rfl, Wk.rfl⟩, ?_⟩ | refine ⟨⟨_, _, accV_ren rfl, rfl, Wk.acc0⟩, ?_⟩ | refine ⟨⟨_, _, rfl, rfl, Wk.uncap⟩, ?_⟩ | refine ⟨⟨_, _, rfl, rfl, Wk.nil⟩, ?_⟩)) (by repeat' (first | exact True.intro | refine ⟨⟨_, _, _, rfl, rfl, rfl, WkO.rfl⟩, ?_⟩ | refine HeapOK.acc rfl rfl ?_ | refine HeapOK.es rfl rfl ?_)))
          refine M.go rfl ?_
          refine M.dec rfl (fun h2 => ?_) (fun h2 => ?_)
          · refine M.go rfl ?_
            refine M.exit (M.go rfl ?_)
            rw [hw2]
            exact M.again (XH.ren [(0, 0), (1, 1)] (ih' _ _ (by rw [hB']; exact h.mono (by omega))) rfl (by repeat' (first | exact True.intro | refine ⟨⟨_, _, rfl, rfl, Wk.rfl⟩, ?_⟩ | refine ⟨⟨_, _, accV_ren rfl, rfl, Wk.rfl⟩, ?_⟩ | refine ⟨⟨_, _, accV_ren rfl, rfl, Wk.acc0⟩, ?_⟩ | refine ⟨⟨_, _, rfl, rfl, Wk.uncap⟩, ?_⟩ | refine ⟨⟨_, _, rfl, rfl, Wk.nil⟩, ?_⟩)) (by repeat' (first | exact True.intro | refine ⟨⟨_, _, _, rfl, rfl, rfl, WkO.rfl⟩, ?_⟩ | refine HeapOK.acc rfl rfl ?_ | refine HeapOK.es rfl rfl ?_)))
          refine M.go rfl ?_
          refine M.cond rfl (fun h3 => ?_) (fun h3 => ?_)
          · refine M.go rfl ?_
            refine M.exit (M.go rfl ?_)
            rw [hw2]
            exact M.again (XH.ren [(0, 0), (1, 1)] (ih' _ _ (by rw [hB']; exact h.mono (by omega))) rfl (by repeat' (first | exact True.intro | refine ⟨⟨_, _, rfl, rfl, Wk.rfl⟩, ?_⟩ | refine ⟨⟨_, _, accV_ren rfl, rfl, Wk.rfl⟩, ?_⟩ | refine ⟨⟨_, _, accV_ren rfl, rfl, Wk.acc0⟩, ?_⟩ | refine ⟨⟨_, _, rfl, rfl, Wk.uncap⟩, ?_⟩ | refine ⟨⟨_, _, rfl, rfl, Wk.nil⟩, ?_⟩)) (by repeat' (first | exact True.intro | refine ⟨⟨_, _, _, rfl, rfl, rfl, WkO.rfl⟩, ?_⟩ | refine HeapOK.acc rfl rfl ?_ | refine HeapOK.es rfl rfl ?_)))
          refine M.go rfl ?_
          refine M.use (by first | exact True.intro | exact rfl) (Reset_spec L h.hL s hsk) [(0, 0)] rfl rfl rfl (by repeat' (first | exact True.intro | refine ⟨⟨_, _, _, rfl, rfl, rfl, WkO.rfl⟩, ?_⟩ | refine HeapOK.acc rfl rfl ?_ | refine HeapOK.es rfl rfl ?_)) rfl rfl ?_
          refine M.go rfl ?_
          refine M.use (by first | exact True.intro | exact rfl) (RReset_spec R h.hR s hsk) [(0, 1)] rfl rfl rfl (by repeat' (first | exact True.intro | refine ⟨⟨_, _, _, rfl, rfl, rfl, WkO.rfl⟩, ?_⟩ | refine HeapOK.acc rfl rfl ?_ | refine HeapOK.es rfl rfl ?_)) rfl rfl ?_
          refine M.go rfl ?_
          have h' := h.reset hB s hsk (by omega) (by omega)
          refine M.use (by first | exact True.intro | exact rfl) (same_spec h' hB) [(0, 0), (1, 1)] rfl rfl rfl (by repeat' (first | exact True.intro | refine ⟨⟨_, _, _, rfl, rfl, rfl, WkO.rfl⟩, ?_⟩ | refine HeapOK.acc rfl rfl ?_ | refine HeapOK.es rfl rfl ?_)) rfl rfl ?_
          refine M.go rfl ?_
          rw [hw2]
          exact M.again (XH.ren [(0, 0), (1, 1)] (ih' _ _ (by rw [hB']; exact h'.mono (by omega))) rfl (by repeat' (first | exact True.intro | refine ⟨⟨_, _, rfl, rfl, Wk.rfl⟩, ?_⟩ | refine ⟨⟨_, _, accV_ren rfl, rfl, Wk.rfl⟩, ?_⟩ | refine ⟨⟨_, _, accV_ren rfl, rfl, Wk.acc0⟩, ?_⟩ | refine ⟨⟨_, _, rfl, rfl, Wk.uncap⟩, ?_⟩ | refine ⟨⟨_, _, rfl, rfl, Wk.nil⟩, ?_⟩)) (by repeat' (first | exact True.intro | refine ⟨⟨_, _, _, rfl, rfl, rfl, WkO.rfl⟩, ?_⟩ | refine HeapOK.acc rfl rfl ?_ | refine HeapOK.es rfl rfl ?_)))
    · refine M.go rfl ?_
      refine M.ren [] ?_ trivial rfl (by repeat' (first | exact True.intro | refine ⟨⟨_, _, rfl, rfl, Wk.rfl⟩, ?_⟩ | refine ⟨⟨_, _, accV_ren rfl, rfl, Wk.rfl⟩, ?_⟩ | refine ⟨⟨_, _, accV_ren rfl, rfl, Wk.acc0⟩, ?_⟩ | refine ⟨⟨_, _, rfl, rfl, Wk.uncap⟩, ?_⟩ | refine ⟨⟨_, _, rfl, rfl, Wk.nil⟩, ?_⟩)) (by repeat' (first | exact True.intro | refine ⟨⟨_, _, _, rfl, rfl, rfl, WkO.rfl⟩, ?_⟩ | refine HeapOK.acc rfl rfl ?_ | refine HeapOK.es rfl rfl ?_)) (e' := []) (h' := ⟨[], 0⟩)
      exact M.exit (M.go rfl (M.done hq))
theorem LogAll_spec (s : Snp) (hs : s.raw) (z : Bool) (es : List Ent) (hes : es.length ≤ 100000000000000 ∧ ∀ e ∈ es, e.raw) (z2 : Bool) (ops : List LOpr) (hops : ops.length ≤ 100000000000000 ∧ ∀ o ∈ ops, o.raw) :
    CallS Try.prog base 10 [s.v, .c (.p (.tz z 4 (entP es) none)), .c (.p (.tz z2 8 (opP ops) none))] ⟨[], 0⟩ (.c (.p (.bool true))) ⟨[], 0⟩ := by
  refine CallS.of noNG lAll.2 rfl (M.start (M.go rfl ?_))
  refine M.use0 trivial begun_spec rfl rfl rfl ?_
  refine M.go rfl ?_
  refine M.use0 trivial (CutSnap_spec s hs.cf.1) rfl rfl rfl ?_
  refine M.go rfl ?_
  refine M.use0 trivial (CutEntries_spec z none es 20 hes.1 (by omega)) rfl rfl rfl ?_
  obtain ⟨t, ht⟩ : ∃ t, t = s.cut := ⟨_, rfl⟩
  have htk : t.ok := by rw [ht]; exact hs.cut
  obtain ⟨X, hX⟩ : ∃ X, X = cutEs es 20 := ⟨_, rfl⟩
  have hXok : ∀ e ∈ X, e.ok := by rw [hX]; exact cutEs_ok hes.2
  have hXl : X.length ≤ 20 := by rw [hX]; exact cutEs_len _ _
  rw [← ht, ← hX]
  refine M.go rfl ?_
  refine M.dec rfl (fun h1 => ?_) (fun h1 => ?_)
  · refine M.go rfl ?_
    exact M.ret (M.go rfl (M.done (finQ.ret [] rfl rfl rfl (by first | exact Wk.rfl | exact Wk.uncap | exact Wk.nil | exact Wk.b1 rfl | exact Wk.t2 Wk.rfl (Wk.b1 rfl)) (by repeat' (first | exact True.intro | refine ⟨⟨_, _, _, rfl, rfl, rfl, WkO.rfl⟩, ?_⟩ | refine HeapOK.acc rfl rfl ?_ | refine HeapOK.es rfl rfl ?_)))))
  refine M.go rfl ?_
  refine M.cond rfl (fun h2 => ?_) (fun h2 => ?_)
  · refine M.go rfl ?_
    exact M.ret (M.go rfl (M.done (finQ.ret [] rfl rfl rfl (by first | exact Wk.rfl | exact Wk.uncap | exact Wk.nil | exact Wk.b1 rfl | exact Wk.t2 Wk.rfl (Wk.b1 rfl)) (by repeat' (first | exact True.intro | refine ⟨⟨_, _, _, rfl, rfl, rfl, WkO.rfl⟩, ?_⟩ | refine HeapOK.acc rfl rfl ?_ | refine HeapOK.es rfl rfl ?_)))))
  refine M.go rfl ?_
  have hne := new_eq t X (by omega) hXl
  by_cases hy : rnewOk t X = true
  · refine M.use (by first | exact True.intro | exact rfl) (New_yes t htk true none X (by omega) hXok (by rw [hne]; exact hy)) [] rfl rfl rfl (by repeat' (first | exact True.intro | refine ⟨⟨_, _, _, rfl, rfl, rfl, WkO.rfl⟩, ?_⟩ | refine HeapOK.acc rfl rfl ?_ | refine HeapOK.es rfl rfl ?_)) rfl rfl ?_
    refine M.go rfl ?_
    refine M.use (by first | exact True.intro | exact rfl) (RNew_yes t htk true none X (by omega) hXok hy) [] rfl rfl rfl (by repeat' (first | exact True.intro | refine ⟨⟨_, _, _, rfl, rfl, rfl, WkO.rfl⟩, ?_⟩ | refine HeapOK.acc rfl rfl ?_ | refine HeapOK.es rfl rfl ?_)) rfl rfl ?_
    refine M.go rfl ?_
    have h := Rel.new t htk X (by omega) hXl hXok hy
    refine M.use (by first | exact True.intro | exact rfl) (same_spec h (by omega)) [(0, 1), (1, 2)] rfl rfl rfl (by repeat' (first | exact True.intro | refine ⟨⟨_, _, _, rfl, rfl, rfl, WkO.rfl⟩, ?_⟩ | refine HeapOK.acc rfl rfl ?_ | refine HeapOK.es rfl rfl ?_)) rfl rfl ?_
    refine M.go rfl ?_
    refine M.loop (XH.ren [(0, 1), (1, 2)] (all_loop z2 none ops hops.2 hops.1 _ ?_ ops [] _ _ rfl (by simp) h) rfl (by repeat' (first | exact True.intro | refine ⟨⟨_, _, rfl, rfl, Wk.rfl⟩, ?_⟩ | refine ⟨⟨_, _, accV_ren rfl, rfl, Wk.rfl⟩, ?_⟩ | refine ⟨⟨_, _, accV_ren rfl, rfl, Wk.acc0⟩, ?_⟩ | refine ⟨⟨_, _, rfl, rfl, Wk.uncap⟩, ?_⟩ | refine ⟨⟨_, _, rfl, rfl, Wk.nil⟩, ?_⟩)) (by repeat' (first | exact True.intro | refine ⟨⟨_, _, _, rfl, rfl, rfl, WkO.rfl⟩, ?_⟩ | refine HeapOK.acc rfl rfl ?_ | refine HeapOK.es rfl rfl ?_)))
    refine M.q (M.go rfl ?_)
    exact M.ret (M.go rfl (M.done (finQ.ret [] rfl rfl rfl (by first | exact Wk.rfl | exact Wk.uncap | exact Wk.nil | exact Wk.b1 rfl | exact Wk.t2 Wk.rfl (Wk.b1 rfl)) (by repeat' (first | exact True.intro | refine ⟨⟨_, _, _, rfl, rfl, rfl, WkO.rfl⟩, ?_⟩ | refine HeapOK.acc rfl rfl ?_ | refine HeapOK.es rfl rfl ?_)))))
  · have hy' : rnewOk t X = false := by simpa using hy
    refine M.use (by first | exact True.intro | exact rfl) (New_no t htk true none X (by omega) hXok (by rw [hne]; exact hy')) [] rfl rfl rfl (by repeat' (first | exact True.intro | refine ⟨⟨_, _, _, rfl, rfl, rfl, WkO.rfl⟩, ?_⟩ | refine HeapOK.acc rfl rfl ?_ | refine HeapOK.es rfl rfl ?_)) rfl rfl ?_
    refine M.go rfl ?_
    refine M.use (by first | exact True.intro | exact rfl) (RNew_no t htk true none X (by omega) hXok hy') [] rfl rfl rfl (by repeat' (first | exact True.intro | refine ⟨⟨_, _, _, rfl, rfl, rfl, WkO.rfl⟩, ?_⟩ | refine HeapOK.acc rfl rfl ?_ | refine HeapOK.es rfl rfl ?_)) rfl rfl ?_
    refine M.go rfl ?_
    exact M.ret (M.go rfl (M.done (finQ.ret [] rfl rfl rfl (by first | exact Wk.rfl | exact Wk.uncap | exact Wk.nil | exact Wk.b1 rfl | exact Wk.t2 Wk.rfl (Wk.b1 rfl)) (by repeat' (first | exact True.intro | refine ⟨⟨_, _, _, rfl, rfl, rfl, WkO.rfl⟩, ?_⟩ | refine HeapOK.acc rfl rfl ?_ | refine HeapOK.es rfl rfl ?_)))))
end Go.Proofs.Yteegdhfekemhmaa

namespace Go.Proofs.Yteegdhfekemhmaa
open Go.RowKit Sim Go Sym
set_option maxRecDepth 100000
set_option linter.unusedVariables false
set_option linter.unusedSimpArgs false
variable {base : Nat}
def tyEnt : Ty := .st [.int .i64, .int .i64, .int .i64, .sl 1 1 (.int .u8)]
def tySnap : Ty := .st [.int .i64, .int .i64, .sl 1 8 (.int .i64), .sl 1 1 (.int .u8)]
def tyLop : Ty := .st [.int .i64, .int .i64, .sl 4 48 tyEnt, tySnap, .sl 1 1 (.int .u8)]
theorem is_ent {p : PC} (h : Is tyEnt p) : ∃ e : Ent, p = e.pc ∧ e.raw := by
  obtain ⟨l, rfl, k0⟩ := h.st
  obtain ⟨a, r1, ha, rfl, k1⟩ := k0.cons
  obtain ⟨a, rfl, a1⟩ := ha.i64
  obtain ⟨b, r2, hb, rfl, k2⟩ := k1.cons
  obtain ⟨b, rfl, b1⟩ := hb.i64
  obtain ⟨c, r3, hc, rfl, k3⟩ := k2.cons
  obtain ⟨c, rfl, c1⟩ := hc.i64
  obtain ⟨d, r4, hd, rfl, k4⟩ := k3.cons
  obtain ⟨z, d, rfl, d1, d2⟩ := hd.bytes
  obtain rfl := k4.nil
  exact ⟨⟨a, b, c, z, d, none⟩, rfl, a1, b1, c1, d2⟩
theorem is_ents {p : PC} (h : Is (.sl 4 48 tyEnt) p) : ∃ z, ∃ l : List Ent, p = .tz z 4 (entP l) none ∧ l.length ≤ 100000000000000 ∧ ∀ e ∈ l, e.raw := by
  obtain ⟨z, el, rfl, h1, h2⟩ := h.sl
  obtain ⟨l, rfl, h3⟩ := lift (fun p hp => is_ent hp) h2
  exact ⟨z, l, rfl, by simp at h1; omega, h3⟩
theorem is_snap {p : PC} (h : Is tySnap p) : ∃ s : Snp, p = s.pc ∧ s.raw ∧ s.cc = none ∧ s.dc = none := by
  obtain ⟨l, rfl, k0⟩ := h.st
  obtain ⟨a, r1, ha, rfl, k1⟩ := k0.cons
  obtain ⟨a, rfl, a1⟩ := ha.i64
  obtain ⟨b, r2, hb, rfl, k2⟩ := k1.cons
  obtain ⟨b, rfl, b1⟩ := hb.i64
  obtain ⟨c, r3, hc, rfl, k3⟩ := k2.cons
  obtain ⟨zc, c, rfl, c1, c2⟩ := hc.ints
  obtain ⟨d, r4, hd, rfl, k4⟩ := k3.cons
  obtain ⟨z, d, rfl, d1, d2⟩ := hd.bytes
  obtain rfl := k4.nil
  exact ⟨⟨a, b, zc, c, none, z, d, none⟩, rfl, ⟨a1, b1, ⟨by simp only; omega, c2⟩, d2⟩, rfl, rfl⟩
theorem is_lop {p : PC} (h : Is tyLop p) : ∃ o : LOpr, p = o.pc ∧ o.raw := by
  obtain ⟨l, rfl, k0⟩ := h.st
  obtain ⟨a, r1, ha, rfl, k1⟩ := k0.cons
  obtain ⟨a, rfl, a1⟩ := ha.i64
  obtain ⟨b, r2, hb, rfl, k2⟩ := k1.cons
  obtain ⟨b, rfl, b1⟩ := hb.i64
  obtain ⟨c, r3, hc, rfl, k3⟩ := k2.cons
  obtain ⟨zc, c, rfl, c1⟩ := is_ents hc
  obtain ⟨s, r4, hs, rfl, k4⟩ := k3.cons
  obtain ⟨s, rfl, s1, -⟩ := is_snap hs
  obtain ⟨d, r5, hd, rfl, k5⟩ := k4.cons
  obtain ⟨z, d, rfl, d1, d2⟩ := hd.bytes
  obtain rfl := k5.nil
  exact ⟨⟨a, b, zc, c, s, z, d⟩, rfl, b1, c1, s1, d2⟩
theorem LogAll_law {p0 p1 p2 : PC} (h0 : Is tySnap p0) (h1 : Is (.sl 4 48 tyEnt) p1) (h2 : Is (.sl 8 128 tyLop) p2) : CallS Try.prog base 10 [xvP p0, xvP p1, xvP p2] ⟨[], 0⟩ (.c (.p (.bool true))) ⟨[], 0⟩ := by
  obtain ⟨s, rfl, s1, -⟩ := is_snap h0
  obtain ⟨z, es, rfl, e1⟩ := is_ents h1
  obtain ⟨z2, el, rfl, g1, g2⟩ := h2.sl
  obtain ⟨ops, rfl, g3⟩ := lift (fun p hp => is_lop hp) g2
  exact LogAll_spec s s1 z es e1 z2 ops ⟨by simp at g1; omega, g3⟩
end Go.Proofs.Yteegdhfekemhmaa

namespace Go.Proofs.Yteegdhfekemhmaa
open Go.RowKit Sim Go Sym
set_option maxRecDepth 100000
set_option linter.unusedVariables false
set_option linter.unusedSimpArgs false
variable {base : Nat}
structure PMsg.raw (m : PMsg) : Prop where
  hd : ∀ n ∈ m.hd, InI64 n
  es : m.es.length ≤ 100000000000000 ∧ ∀ e ∈ m.es, e.raw
  hint : InI64 m.hint
  cf : m.cf.length ≤ 100000000000000 ∧ ∀ n ∈ m.cf, InI64 n
  d : ∀ b ∈ m.d, b < 256
  q : InI64 m.off ∧ InI64 m.sz ∧ InI64 m.ctx
theorem i64_in {n : Int} (h : I64 n) : InI64 n := ⟨h.1, by have := h.2; omega⟩
theorem in_i64 {n : Int} (h : InI64 n) : I64 n := ⟨h.1, by have := h.2; omega⟩
theorem PMsg.raw.good {m : PMsg} (h : m.raw) : m.cut.good := ⟨h.hd, ⟨by simp [PMsg.cut]; omega, fun e he => by
  obtain ⟨x, hx, rfl⟩ := List.mem_map.1 he
  have := h.es.2 x (List.mem_of_mem_take hx)
  exact ⟨i64_in this.ix, i64_in this.tm, i64_in this.kd, by simp [Ent.cutM]; omega, fun b hb => this.d b (List.mem_of_mem_take hb)⟩⟩, h.hint, ⟨by simp [PMsg.cut]; omega, fun n hn => h.cf.2 n (List.mem_of_mem_take hn)⟩, ⟨by simp [PMsg.cut]; omega, fun b hb => h.d b (List.mem_of_mem_take hb)⟩, h.q⟩
theorem PMsg.raw.nc {m : PMsg} (h : m.raw) : m.cut.nc := ⟨fun e he => by
  obtain ⟨x, hx, rfl⟩ := List.mem_map.1 he
  rfl⟩
theorem PMsg.good.rd {m : PMsg} (h : m.good) : m.rd := ⟨⟨by have := h.es.1; omega, fun e he => by
  obtain ⟨a, b, c, d, e⟩ := h.es.2 e he
  exact ⟨in_i64 a, in_i64 b, in_i64 c, by omega, e⟩⟩, by have := h.cf.1; omega, by have := h.d.1; omega, h.d.2⟩
theorem msgB_bytes {m : PMsg} (h : m.good) : Bytes (msgB m.p) := by
  refine (numsB_bytes _).app ((numB_bytes _).app ((entsB_bytes h.p.2.2.2.1).app ((flagB_bytes _).app ((numB_bytes _).app ((confB_bytes _).app ((textB_bytes (i2_bytes h.d.2)).app (numsB_bytes _)))))))
theorem msgB_len {m : PMsg} (h : m.raw) : 1 ≤ (msgB m.cut.p).length ∧ (msgB m.cut.p).length ≤ 3000 := by
  have hg := h.good
  have a1 := numsB_len m.cut.hd hg.hd
  have a2 : m.cut.hd.length = 7 := rfl
  have e1 : m.cut.es.length ≤ 8 := by simp [PMsg.cut]; omega
  have a3 : (numB (m.cut.es.length : Int)).length ≤ 10 := numB_len (by omega) (by omega)
  have a4 := (entsB_len (m.cut.es.map Ent.p) 100 (fun e he => by
    obtain ⟨x, hx, rfl⟩ := List.mem_map.1 he
    obtain ⟨q1, q2, q3, q4, q5⟩ := hg.es.2 x hx
    obtain ⟨y, hy, rfl⟩ := List.mem_map.1 hx
    exact ⟨⟨q1, q2, q3, by simp [Ent.p, i2_len]; omega, i2_bytes q5⟩, by simp [Ent.p, i2_len, Ent.cutM]; omega⟩)).2
  have a5 : (100 + 40) * (m.cut.es.map Ent.p).length ≤ (100 + 40) * 8 := Nat.mul_le_mul_left _ (by simpa using e1)
  have a6 := numB_len hg.hint.1 hg.hint.2
  have e2 : m.cut.cf.length ≤ 9 := by simp [PMsg.cut]; omega
  have a7 : (numB (m.cut.cf.length : Int)).length ≤ 10 := numB_len (by omega) (by omega)
  have a8 := (numsB_len m.cut.cf hg.cf.2).2
  have e3 : m.cut.d.length ≤ 100 := by simp [PMsg.cut]; omega
  have a9 := textB_len (xs := i2 m.cut.d) (by rw [i2_len]; omega)
  rw [i2_len] at a9
  obtain ⟨q1, q2, q3⟩ := hg.q
  have b1 := numB_len q1.1 q1.2
  have b2 := numB_len q2.1 q2.2
  have b3 := numB_len q3.1 q3.2
  have hm : msgB m.cut.p = numsB m.cut.hd ++ (numB m.cut.es.length ++ (entsB (m.cut.es.map Ent.p) ++ (flagB m.cut.ok ++ (numB m.cut.hint ++ (confB m.cut.cf ++ (textB (i2 m.cut.d) ++ (numB m.cut.off ++ (numB m.cut.sz ++ numB m.cut.ctx)))))))) := by simp [msgB, PMsg.p, numsB]
  rw [hm]
  simp only [List.length_append, confB, flagB, List.length_cons, List.length_nil]
  constructor <;> omega
/-! What is read. -/
section
attribute [local irreducible] rN rRest rBad rT rTRest rTBad rF rFRest rFBad nL nR nB eL eR eB cN cRest cBad RS.nums RS.ents RS.count RS.num RS.text RS.flag RS.conf
theorem l7_eq : ∀ l : List Int, l.length = 7 → [l.getD 0 0, l.getD 1 0, l.getD 2 0, l.getD 3 0, l.getD 4 0, l.getD 5 0, l.getD 6 0] = l := fun l h => by
  match l, h with
  | [_, _, _, _, _, _, _], _ => rfl
theorem l3_eq : ∀ l : List Int, l.length = 3 → [l.getD 0 0, l.getD 1 0, l.getD 2 0] = l := fun l h => by
  match l, h with
  | [_, _, _], _ => rfl
theorem RS.msg_eq {r : RS} (hr : r.ok) (hb : r.bad = false) : r.msg.1.p = mD r.xs ∧ r.msg.2.bad = mb15 r.xs ∧ r.msg.2.xs = mx15 r.xs := by
  obtain ⟨a1, a2, a3⟩ := r.nums_eq 7
  have o1 := RS.nums_ok hr 7
  have l7 := RS.nums_len r 7
  obtain ⟨A, hA⟩ : ∃ A, A = r.nums 7 := ⟨_, rfl⟩
  rw [← hA] at a1 a2 a3 o1 l7
  obtain ⟨c1, c2, c3⟩ := A.2.count_eq
  have o2 := o1.count
  obtain ⟨C, hC⟩ : ∃ C, C = A.2.count := ⟨_, rfl⟩
  rw [← hC] at c1 c2 c3 o2
  obtain ⟨k, hk⟩ : ∃ k, k = C.1.toNat := ⟨_, rfl⟩
  obtain ⟨e1, e2, e3⟩ := RS.ents_eq o2 k
  have o3 := RS.ents_ok o2 k
  obtain ⟨E, hE⟩ : ∃ E, E = C.2.ents k := ⟨_, rfl⟩
  rw [← hE] at e1 e2 e3 o3
  obtain ⟨f1, f2, f3⟩ := E.2.flag_eq
  have o4 := o3.flag
  obtain ⟨F, hF⟩ : ∃ F, F = E.2.flag := ⟨_, rfl⟩
  rw [← hF] at f1 f2 f3 o4
  obtain ⟨h1, h2, h3⟩ := F.2.num_eq
  have o5 := o4.num
  obtain ⟨G, hG⟩ : ∃ G, G = F.2.num := ⟨_, rfl⟩
  rw [← hG] at h1 h2 h3 o5
  obtain ⟨k1, k2, k3⟩ := G.2.conf_eq
  have o6 := o5.conf
  obtain ⟨J, hJ⟩ : ∃ J, J = G.2.conf := ⟨_, rfl⟩
  rw [← hJ] at k1 k2 k3 o6
  obtain ⟨t1, t2, t3⟩ := J.2.text_eq o6
  have tb := (RS.text_b o6).2
  obtain ⟨T, hT⟩ : ∃ T, T = J.2.text := ⟨_, rfl⟩
  rw [← hT] at t1 t2 t3 tb
  obtain ⟨q1, q2, q3⟩ := T.2.nums_eq 3
  have l3 := RS.nums_len T.2 3
  obtain ⟨W, hW⟩ : ∃ W, W = T.2.nums 3 := ⟨_, rfl⟩
  rw [← hW] at q1 q2 q3 l3
  have hm : r.msg = (⟨A.1.getD 0 0, A.1.getD 1 0, A.1.getD 2 0, A.1.getD 3 0, A.1.getD 4 0, A.1.getD 5 0, A.1.getD 6 0, true, E.1, F.1, G.1, true, J.1, T.1.1, n2 T.1.2, W.1.getD 0 0, W.1.getD 1 0, W.1.getD 2 0⟩, W.2) := by
    simp only [RS.msg, ← hA, ← hC, ← hk, ← hE, ← hF, ← hG, ← hJ, ← hT, ← hW]
  clear hA hC hE hF hG hJ hT hW o1 o2 o3 o4 o5 o6
  have x7 : A.2.xs = mx7 r.xs := by rw [a2]; rfl
  have b7 : A.2.bad = mb7 r.xs := by rw [a3, hb]; rfl
  have x8 : C.2.xs = mx8 r.xs := by rw [c2, x7]; rfl
  have b8 : C.2.bad = mb8 r.xs := by rw [c3, x7, b7]; rfl
  have hkk : k = cN (mx7 r.xs) := by rw [hk, c1, x7, Int.toNat_natCast]
  have x9 : E.2.xs = mx9 r.xs := by rw [e2, x8, hkk]; rfl
  have b9 : E.2.bad = mb9 r.xs := by rw [e3, x8, b8, hkk]; rfl
  have x10 : F.2.xs = mx10 r.xs := by rw [f2, x9]; rfl
  have b10 : F.2.bad = mb10 r.xs := by rw [f3, x9, b9]; rfl
  have x11 : G.2.xs = mx11 r.xs := by rw [h2, x10]; rfl
  have b11 : G.2.bad = mb11 r.xs := by rw [h3, x10, b10]; rfl
  have x13 : J.2.xs = mx13 r.xs := by rw [k2, x11]; rfl
  have b13 : J.2.bad = mb13 r.xs := by rw [k3, x11, b11]; rfl
  have x14 : T.2.xs = mx14 r.xs := by rw [t2, x13]; rfl
  have b14 : T.2.bad = mb14 r.xs := by rw [t3, x13, b13]; rfl
  have x15 : W.2.xs = mx15 r.xs := by rw [q2, x14]; rfl
  have b15 : W.2.bad = mb15 r.xs := by rw [q3, x14, b14]; rfl
  rw [hm]
  refine ⟨?_, b15, x15⟩
  unfold PMsg.p PMsg.hd mD
  simp only
  rw [l7_eq _ l7, l3_eq _ l3, i2_n2 tb, a1, e1, f1, h1, k1, t1, q1, x8, hkk, x9, x10, x11, x13, x14]
  rfl
end
theorem msgR_yes {z : Bool} {xs : List Int} (hl : xs.length ≤ 1000000000000) (hb : Bytes xs) (h : MOK xs) : ∃ k : PMsg, RS.msgR ⟨z, xs, false⟩ = (k, 0) ∧ k.p = mD xs := by
  have hr : (⟨z, xs, false⟩ : RS).ok := ⟨hl, hb, fun h => (by cases h), fun h => (by cases h)⟩
  obtain ⟨h1, h2, h3⟩ := RS.msg_eq hr rfl
  refine ⟨(RS.msg ⟨z, xs, false⟩).1, ?_, h1⟩
  rw [RS.msgR, h2, h3, if_pos]
  simp only at *
  rw [h.1, h.2]; rfl
theorem msgR_no {z : Bool} {xs : List Int} (hl : xs.length ≤ 1000000000000) (hb : Bytes xs) (h : ¬ MOK xs) : RS.msgR ⟨z, xs, false⟩ = (PMsg.zero, 3) := by
  have hr : (⟨z, xs, false⟩ : RS).ok := ⟨hl, hb, fun h => (by cases h), fun h => (by cases h)⟩
  obtain ⟨h1, h2, h3⟩ := RS.msg_eq hr rfl
  rw [RS.msgR, h2, h3, if_neg]
  intro hc
  simp only [Bool.and_eq_true, Bool.not_eq_true', List.isEmpty_iff] at hc
  exact h ⟨hc.1, hc.2⟩
theorem good_of {k : PMsg} {xs : List Int} (hb : Bytes xs) (hl : xs.length ≤ 3000) (h : MOK xs) (hk : k.p = mD xs) : k.good ∧ msgB k.p = xs := by
  obtain ⟨h0, h1, h2, h3, h4, h5, h6⟩ := msg_inv hb h
  have hx : msgB k.p = xs := by rw [hk]; exact h0.symm
  rw [← hk] at h1 h2 h3 h4 h5 h6
  have hlen := hl
  rw [← hx] at hlen
  have hE : ∀ e ∈ k.es, InI64 e.ix ∧ InI64 e.tm ∧ InI64 e.kd ∧ ∀ b ∈ e.d, b < 256 := fun e he => by
    obtain ⟨a, b, c, d⟩ := h2 e.p (List.mem_map_of_mem he)
    refine ⟨a, b, c, fun x hx => ?_⟩
    have := d (x : Int) (List.mem_map_of_mem hx)
    omega
  have hD : ∀ b ∈ k.d, b < 256 := fun x hx => by have := h5 (x : Int) (List.mem_map_of_mem hx); omega
  simp only [msgB, List.length_append] at hlen
  have c1 : k.p.conf = k.cf := rfl
  have c2 : k.p.data = i2 k.d := rfl
  have c3 : k.p.es = k.es.map Ent.p := rfl
  rw [c1, c2, c3] at hlen
  have d1 := (numsB_len k.cf h4).1
  have d2 : (i2 k.d).length = k.d.length := i2_len _
  have d3 : ∀ (l : List Ent), l.length ≤ (entsB (l.map Ent.p)).length ∧ ∀ e ∈ l, e.d.length ≤ (entsB (l.map Ent.p)).length := by
    intro l
    induction l with
    | nil => simp
    | cons e l ih =>
      have n1 := numB_pos e.ix
      rw [List.map_cons, entsB_cons]
      have : (enB e.p).length = (numB e.ix).length + (numB e.tm).length + (numB e.kd).length + ((numB (e.d.length : Int)).length + e.d.length) := by simp [enB, textB, Ent.p, i2_len]; omega
      refine ⟨by simp; omega, fun f hf => ?_⟩
      rw [List.length_append]
      rcases List.mem_cons.1 hf with rfl | hf
      · omega
      · have := ih.2 f hf; omega
  obtain ⟨d4, d5⟩ := d3 k.es
  simp only [confB, textB, List.length_append] at hlen
  rw [d2] at hlen
  exact ⟨⟨h1, ⟨by omega, fun e he => by
    obtain ⟨a, b, c, d⟩ := hE e he
    exact ⟨a, b, c, by have := d5 e he; omega, d⟩⟩, h3, ⟨by omega, h4⟩, ⟨by omega, hD⟩, ⟨h6 k.off (by simp [PMsg.p]), h6 k.sz (by simp [PMsg.p]), h6 k.ctx (by simp [PMsg.p])⟩⟩, hx⟩
end Go.Proofs.Yteegdhfekemhmaa

namespace Go.Proofs.Yteegdhfekemhmaa
open Go.RowKit Sim Go Sym
set_option maxRecDepth 100000
set_option linter.unusedVariables false
set_option linter.unusedSimpArgs false
variable {base : Nat}
section
variable {P : Program} {n k : Nat} {e : Env} {h : HS} {Q : QX} {K : List Fr}
theorem SOp.slOR {s : Nat} {x : LX} {lo hi : Option LX} {b m l r : Nat} {ex : List PC} (hx : xev e x = some (.c (.sl b 0 m s none))) (hl : BndX e lo 0 l) (hr : BndX e hi m r) (h1 : l ≤ r) (hb : h.get b = some (.els s ex)) (h2 : r ≤ ex.length) (hs : 0 < s) :
    SOp P n (.sl s x lo hi none) e h (.c (.sl b (l * s) (r - l) s none)) h := ⟨fun o call hw => by
  generalize ho : o.op = op' at hw
  generalize hm0 : (none : Option LX) = mx0 at hw
  cases hw with
  | sl g1 g2 g3 g4 g5 g6 =>
    rename_i t o' lo' hi' mx' e'
    subst hm0
    have h3 := BndX.bnd (n := n) g4 hl
    have h4 := BndX.bnd (n := n) g5 hr
    have h5 : bndM (toSF n e) mx' = some none := BndM.bnd (n := n) (e := e) g6 rfl
    have h6 : reach h.sh b (0 + r * s) = true := by
      simp only [reach, get_els hb, flatE_len, Nat.zero_add, Nat.ble_eq]
      exact Nat.mul_le_mul_right _ h2
    simp only [Sim.step, ho, xev_ev g1 hx, XV.sv, XC.sc, sSlice, g2, g3, h3, h4, h5]
    rw [if_pos ⟨h1, trivial, hs, fun hh => by simp at hh⟩, if_pos (.inr h6), Nat.zero_add]
    rfl⟩
end
def nlP : PC := .tz true 0 [] none
noncomputable def lDel : {F : LF // lowerF Try.prog 120 = some F} := ⟨_, rfl⟩
theorem erase_eq (l : List PC) (i : Nat) (h : i < l.length) : l.eraseIdx i = l.take i ++ l.drop (i + 1) := by rw [List.eraseIdx_eq_take_drop_succ]
theorem del_spec (l pad : List PC) (i : Nat) (hi : i < l.length) (hl : l.length ≤ 1000000) : CallS Try.prog base 120 [.c (.sl 0 0 l.length 1 none), .c (.p (.int .i64 i)), .c (.p (.int .i64 ((i : Int) + 1)))] ⟨[(0, some (.els 1 (l ++ pad)))], 1⟩ (.c (.sl 0 0 (l.length - 1) 1 none)) ⟨[(0, some (.els 1 (l.eraseIdx i ++ nlP :: pad)))], 1⟩ := by
  have hfin : ∀ (y : PC), (l.eraseIdx i ++ y :: pad).take (l.length - 1) ++ List.replicate 1 nlP ++ (l.eraseIdx i ++ y :: pad).drop (l.length - 1 + 1) = l.eraseIdx i ++ nlP :: pad := fun y => by
    have h1 : (l.eraseIdx i).length = l.length - 1 := by rw [List.length_eraseIdx]; simp [hi]
    rw [List.take_left' h1, List.drop_append, List.drop_eq_nil_of_le (by omega), h1, show l.length - 1 + 1 - (l.length - 1) = 1 by omega]
    simp
  refine CallS.of noNG lDel.2 rfl (M.start (M.go rfl ?_))
  refine M.op trivial (SOp.slOM (l := i) (r := i + 1) (c := l.length) rfl ⟨_, _, rfl, by omega, by omega⟩ ⟨_, _, rfl, by omega, by omega⟩ ⟨_, _, rfl, by omega, by simp⟩ (by omega) (by omega) (Nat.le_refl _) (by omega)) ?_
  refine M.go rfl ?_
  refine M.cond rfl (fun hn => absurd hn (by omega)) (fun _ => ?_)
  refine M.go rfl ?_
  refine M.regD (MD.go rfl ?_)
  refine MD.op trivial (SOp.slO (l := 0) (r := i) rfl rfl ⟨_, _, rfl, by omega, by omega⟩ (by omega) (by omega) (by omega)) ?_
  refine MD.go rfl ?_
  refine MD.op trivial (SOp.slO (l := i + 1) (r := l.length) rfl ⟨_, _, rfl, by omega, by omega⟩ rfl (by omega) (by omega) (by omega)) ?_
  rw [Nat.zero_mul, Nat.zero_add, Nat.sub_zero, Nat.zero_add]
  refine MD.go rfl ?_
  have hel : ((l ++ pad).drop (i + 1)).take (l.length - (i + 1)) = l.drop (i + 1) := by rw [List.drop_append_of_le_length (by omega), List.take_left' (by simp)]
  by_cases h0 : l.drop (i + 1) = []
  · have hlast : i = l.length - 1 := by have := congrArg List.length h0; simp at this; omega
    refine MD.op trivial (SOp.app0 rfl rfl (.part rfl (by simp; omega) (by rw [hel, h0])) (.inl ⟨_, _, _, _, _, rfl⟩)) ?_
    refine MD.go rfl ?_
    refine MD.nil mixed (Fnl.nodup rfl) (M.go rfl ?_)
    obtain ⟨y, hy⟩ : ∃ y, y = l[i] := ⟨_, rfl⟩
    have hX : l ++ pad = l.eraseIdx i ++ y :: pad := by
      rw [erase_eq l i hi, h0, List.append_nil, hy]
      have : l = l.take i ++ l[i] :: l.drop (i + 1) := by rw [List.getElem_cons_drop, List.take_append_drop]
      rw [h0] at this
      exact (congrArg (· ++ pad) this).trans (List.append_assoc (l.take i) [l[i]] pad)
    rw [hX]
    refine M.op trivial (SOp.slOR (l := l.length - 1) (r := l.length) rfl ⟨_, _, rfl, by omega, by omega⟩ ⟨_, _, rfl, by omega, by omega⟩ (by omega) rfl (by rw [← hX]; simp) (by omega)) ?_
    rw [show l.length - (l.length - 1) = 1 by omega]
    refine M.op trivial (SOp.clr (z := nlP) rfl rfl (by rw [← hX]; simp; omega) (by omega) rfl rfl (by omega)) ?_
    rw [hfin]
    refine M.go rfl ?_
    have hlast2 : (i : Nat) = l.length - 1 := hlast
    clear hy hX
    generalize l.eraseIdx i = E0
    subst hlast2
    exact M.ret (M.go rfl (M.done (finQ.ret [(0, 0)] rfl rfl rfl (by first | exact Wk.rfl | exact Wk.uncap | exact Wk.nil | exact Wk.b1 rfl | exact Wk.t2 Wk.rfl (Wk.b1 rfl)) (by repeat' (first | exact True.intro | refine ⟨⟨_, _, _, rfl, rfl, rfl, WkO.rfl⟩, ?_⟩ | refine HeapOK.acc rfl rfl ?_ | refine HeapOK.es rfl rfl ?_)))))
  · have hll : (l.drop (i + 1)).length = l.length - (i + 1) := by simp
    have hm2 : i + (l.length - (i + 1)) = l.length - 1 := by omega
    refine MD.op trivial (SOp.appIn rfl rfl rfl (.part (el := l.drop (i + 1)) rfl (by simp; omega) hel.symm) (by rw [hll]; simp; omega) h0 (by rw [hll]; omega)) ?_
    rw [hll, hm2]
    have hX : (l ++ pad).take i ++ l.drop (i + 1) ++ (l ++ pad).drop (l.length - 1) = l.eraseIdx i ++ l[l.length - 1] :: pad := by
      rw [erase_eq l i hi, List.take_append_of_le_length (by omega), List.drop_append_of_le_length (by omega)]
      have : l.drop (l.length - 1) = [l[l.length - 1]] := by
        rw [List.drop_eq_getElem_cons (by omega), List.drop_eq_nil_of_le (by omega)]
      rw [this]; simp
    rw [hX]
    refine MD.go rfl ?_
    refine MD.nil mixed (Fnl.nodup rfl) (M.go rfl ?_)
    have h1 : (l.eraseIdx i).length = l.length - 1 := by rw [List.length_eraseIdx]; simp [hi]
    refine M.op trivial (SOp.slOR (l := l.length - 1) (r := l.length) rfl ⟨_, _, rfl, by omega, by omega⟩ ⟨_, _, rfl, by omega, by omega⟩ (by omega) rfl (by simp [h1]; omega) (by omega)) ?_
    rw [show l.length - (l.length - 1) = 1 by omega]
    refine M.op trivial (SOp.clr (z := nlP) rfl rfl (by simp [h1]) (by omega) rfl rfl (by omega)) ?_
    rw [hfin]
    refine M.go rfl ?_
    exact M.ret (M.go rfl (M.done (finQ.ret [(0, 0)] rfl rfl rfl (by first | exact Wk.rfl | exact Wk.uncap | exact Wk.nil | exact Wk.b1 rfl | exact Wk.t2 Wk.rfl (Wk.b1 rfl)) (by repeat' (first | exact True.intro | refine ⟨⟨_, _, _, rfl, rfl, rfl, WkO.rfl⟩, ?_⟩ | refine HeapOK.acc rfl rfl ?_ | refine HeapOK.es rfl rfl ?_)))))
def pkP (xs : List Int) : PC := .tz false 1 (u8P xs) none
def hN (a : Nat) (l : List PC) (p : Nat) (ct : PC) : HS := ⟨[(a, some (.els 1 (l ++ List.replicate p nlP))), (0, some (.row [.sl a 0 l.length 1 none, .p ct] true))], a + 1⟩
def hN0 (ct : PC) : HS := ⟨[(0, some (.row [.p (.tz true 1 [] none), .p ct] true))], 1⟩
noncomputable def lPush : {F : LF // lowerF Try.prog 116 = some F} := ⟨_, rfl⟩
theorem push0_spec (x : List Int) (ct : PC) : CallS Try.prog base 116 [.c (.ptr 0 0), .c (.p (pkP x))] (hN0 ct) (.tup []) (hN 1 [pkP x] 0 ct) := by
  refine CallS.of noNG lPush.2 rfl (M.start (M.go rfl ?_))
  refine M.op trivial (SOp.appN rfl rfl (.own rfl rfl) (by simp) (by simp)) ?_
  refine M.go rfl ?_
  refine M.cond rfl (fun hn => absurd hn (by simp)) (fun _ => ?_)
  refine M.go rfl ?_
  exact M.done (finQ.normal [(0, 0), (1, 2)] rfl rfl rfl Wk.rfl (by repeat' (first | exact True.intro | refine ⟨⟨_, _, _, rfl, rfl, rfl, WkO.rfl⟩, ?_⟩ | refine HeapOK.acc rfl rfl ?_ | refine HeapOK.es rfl rfl ?_)))
def pushL (l : List PC) (b : PC) : List PC := if 500 < l.length + 1 then (l ++ [b]).eraseIdx 0 else l ++ [b]
def pushR (l : List PC) (p : Nat) : Nat := if 500 < l.length + 1 then p - 1 + 1 else p - 1
def pushA : Nat → Nat
  | 0 => 2
  | _ + 1 => 1
theorem push_spec (l : List PC) (p : Nat) (x : List Int) (ct : PC) (hl : l.length ≤ 1000) : CallS Try.prog base 116 [.c (.ptr 0 0), .c (.p (pkP x))] (hN 1 l p ct) (.tup []) (hN (pushA p) (pushL l (pkP x)) (pushR l p) ct) := by
  have hl1 : (l ++ [pkP x]).length = l.length + 1 := by simp
  refine CallS.of noNG lPush.2 rfl (M.start (M.go rfl ?_))
  cases p with
  | zero =>
    simp only [hN, List.replicate_zero, List.append_nil]
    refine M.op trivial (SOp.appO rfl rfl rfl rfl (.own rfl rfl) (by simp) (by simp; omega)) ?_
    rw [show ([pkP x] : List PC).length = 1 from rfl]
    refine M.go rfl ?_
    refine M.cond rfl (fun h5 => ?_) (fun h5 => ?_)
    · have hL : pushL l (pkP x) = (l ++ [pkP x]).eraseIdx 0 := if_pos (by omega)
      have hR : pushR l 0 = 1 := if_pos (by omega)
      rw [hL, hR]
      have D := del_spec (base := base) (l ++ [pkP x]) [] 0 (by omega) (by omega)
      have he : ((l ++ [pkP x]).eraseIdx 0).length = l.length := by rw [List.length_eraseIdx, if_pos (by omega), hl1]; rfl
      rw [hl1, List.append_nil, Nat.add_sub_cancel] at D
      rw [he]
      refine M.go rfl ?_
      refine M.use trivial D [(0, 3)] rfl rfl rfl (by repeat' (first | exact True.intro | refine ⟨⟨_, _, _, rfl, rfl, rfl, WkO.rfl⟩, ?_⟩ | refine HeapOK.acc rfl rfl ?_ | refine HeapOK.es rfl rfl ?_)) rfl rfl ?_
      refine M.go rfl ?_
      exact M.done (finQ.normal [(0, 0), (1, 1), (2, 3)] rfl rfl rfl Wk.rfl (by repeat' (first | exact True.intro | refine ⟨⟨_, _, _, rfl, rfl, rfl, WkO.rfl⟩, ?_⟩ | refine HeapOK.acc rfl rfl ?_ | refine HeapOK.es rfl rfl ?_)))
    · have hL : pushL l (pkP x) = l ++ [pkP x] := if_neg (by omega)
      have hR : pushR l 0 = 0 := if_neg (by omega)
      rw [hL, hR]
      refine M.go rfl ?_
      simp only [List.replicate_zero, List.append_nil, hl1]
      exact M.done (finQ.normal [(0, 0), (1, 1), (2, 3)] rfl rfl rfl Wk.rfl (by repeat' (first | exact True.intro | refine ⟨⟨_, _, _, rfl, rfl, rfl, WkO.rfl⟩, ?_⟩ | refine HeapOK.acc rfl rfl ?_ | refine HeapOK.es rfl rfl ?_)))
  | succ p =>
    have hpad : l ++ List.replicate (p + 1) nlP = l ++ nlP :: List.replicate p nlP := by rw [List.replicate_succ]
    have hX : (l ++ nlP :: List.replicate p nlP).take l.length ++ [pkP x] ++ (l ++ nlP :: List.replicate p nlP).drop (l.length + 1) = (l ++ [pkP x]) ++ List.replicate p nlP := by
      rw [List.take_left' rfl, List.drop_append, List.drop_eq_nil_of_le (by omega), show l.length + 1 - l.length = 1 by omega]
      rfl
    simp only [hN, hpad]
    refine M.op trivial (SOp.appIn rfl rfl rfl (.own rfl rfl) (by simp) (by simp) (by simp; omega)) ?_
    rw [show ([pkP x] : List PC).length = 1 from rfl, hX]
    refine M.go rfl ?_
    refine M.cond rfl (fun h5 => ?_) (fun h5 => ?_)
    · have hL : pushL l (pkP x) = (l ++ [pkP x]).eraseIdx 0 := if_pos (by omega)
      have hR : pushR l (p + 1) = p + 1 := if_pos (by omega)
      rw [hL, hR]
      have D := del_spec (base := base) (l ++ [pkP x]) (List.replicate p nlP) 0 (by omega) (by omega)
      have he : ((l ++ [pkP x]).eraseIdx 0).length = l.length := by rw [List.length_eraseIdx, if_pos (by omega), hl1]; rfl
      rw [hl1, Nat.add_sub_cancel] at D
      rw [he]
      refine M.go rfl ?_
      refine M.use trivial D [(0, 1)] rfl rfl rfl (by repeat' (first | exact True.intro | refine ⟨⟨_, _, _, rfl, rfl, rfl, WkO.rfl⟩, ?_⟩ | refine HeapOK.acc rfl rfl ?_ | refine HeapOK.es rfl rfl ?_)) rfl rfl ?_
      refine M.go rfl ?_
      exact M.done (finQ.normal [(0, 0), (1, 1)] rfl rfl rfl Wk.rfl (by repeat' (first | exact True.intro | refine ⟨⟨_, _, _, rfl, rfl, rfl, WkO.rfl⟩, ?_⟩ | refine HeapOK.acc rfl rfl ?_ | refine HeapOK.es rfl rfl ?_)))
    · have hL : pushL l (pkP x) = l ++ [pkP x] := if_neg (by omega)
      have hR : pushR l (p + 1) = p := if_neg (by omega)
      rw [hL, hR]
      refine M.go rfl ?_
      rw [hl1]
      exact M.done (finQ.normal [(0, 0), (1, 1)] rfl rfl rfl Wk.rfl (by repeat' (first | exact True.intro | refine ⟨⟨_, _, _, rfl, rfl, rfl, WkO.rfl⟩, ?_⟩ | refine HeapOK.acc rfl rfl ?_ | refine HeapOK.es rfl rfl ?_)))
end Go.Proofs.Yteegdhfekemhmaa

namespace Go.Proofs.Yteegdhfekemhmaa
open Go.RowKit Sim Go Sym
set_option maxRecDepth 100000
set_option linter.unusedVariables false
set_option linter.unusedSimpArgs false
variable {base : Nat}
def ct0 : PC := .tz true 1 [] none
noncomputable def lNNew : {F : LF // lowerF Try.prog 71 = some F} := ⟨_, rfl⟩
theorem nnew_spec : CallS Try.prog base 71 [] ⟨[], 0⟩ (.c (.ptr 0 0)) (hN0 ct0) := by
  refine CallS.of noNG lNNew.2 rfl (M.start (M.go rfl ?_))
  exact M.ret (M.go rfl (M.done (finQ.ret [(0, 0)] rfl rfl rfl (by first | exact Wk.rfl | exact Wk.uncap | exact Wk.nil | exact Wk.b1 rfl | exact Wk.t2 Wk.rfl (Wk.b1 rfl)) ⟨⟨_, _, _, rfl, rfl, rfl, WkO.row ⟨Wk.nil, Wk.nil, trivial⟩⟩, trivial⟩)))
noncomputable def lNLen : {F : LF // lowerF Try.prog 73 = some F} := ⟨_, rfl⟩
theorem nlen_spec (l : List PC) (p : Nat) (ct : PC) : CallS Try.prog base 73 [.c (.ptr 0 0)] (hN 1 l p ct) (.c (.p (.int .i64 l.length))) (hN 1 l p ct) := by
  refine CallS.of noNG lNLen.2 rfl (M.start (M.go rfl ?_))
  exact M.ret (M.go rfl (M.done (finQ.ret [(0, 0), (1, 1)] rfl rfl rfl (by first | exact Wk.rfl | exact Wk.uncap | exact Wk.nil | exact Wk.b1 rfl | exact Wk.t2 Wk.rfl (Wk.b1 rfl)) (by repeat' (first | exact True.intro | refine ⟨⟨_, _, _, rfl, rfl, rfl, WkO.rfl⟩, ?_⟩ | refine HeapOK.acc rfl rfl ?_ | refine HeapOK.es rfl rfl ?_)))))
theorem nlen0_spec (ct : PC) : CallS Try.prog base 73 [.c (.ptr 0 0)] (hN0 ct) (.c (.p (.int .i64 0))) (hN0 ct) := by
  refine CallS.of noNG lNLen.2 rfl (M.start (M.go rfl ?_))
  exact M.ret (M.go rfl (M.done (finQ.ret [(0, 0)] rfl rfl rfl (by first | exact Wk.rfl | exact Wk.uncap | exact Wk.nil | exact Wk.b1 rfl | exact Wk.t2 Wk.rfl (Wk.b1 rfl)) (by repeat' (first | exact True.intro | refine ⟨⟨_, _, _, rfl, rfl, rfl, WkO.rfl⟩, ?_⟩ | refine HeapOK.acc rfl rfl ?_ | refine HeapOK.es rfl rfl ?_)))))
noncomputable def lNIs : {F : LF // lowerF Try.prog 117 = some F} := ⟨_, rfl⟩
theorem nis_yes (l : List PC) (p : Nat) (ct : PC) (i : Nat) (hi : i < l.length) : CallS Try.prog base 117 [.c (.ptr 0 0), .c (.p (.int .i64 i))] (hN 1 l p ct) (.c (.p (.bool true))) (hN 1 l p ct) := by
  refine CallS.of noNG lNIs.2 rfl (M.start (M.go rfl ?_))
  refine M.dec rfl (fun _ => ?_) (fun hn => absurd (by omega) hn)
  refine M.go rfl ?_
  refine M.use (by first | exact True.intro | exact rfl) (nlen_spec l p ct) [(0, 0), (1, 1)] rfl rfl rfl (by repeat' (first | exact True.intro | refine ⟨⟨_, _, _, rfl, rfl, rfl, WkO.rfl⟩, ?_⟩ | refine HeapOK.acc rfl rfl ?_ | refine HeapOK.es rfl rfl ?_)) rfl rfl ?_
  refine M.go rfl ?_
  refine M.decC (s := 4) rfl (fun _ => ?_) (fun hn => absurd hn (by simp; omega))
  exact M.ret (M.go rfl (M.done (finQ.ret [(0, 0), (1, 1)] rfl rfl rfl (by first | exact Wk.rfl | exact Wk.uncap | exact Wk.nil | exact Wk.b1 rfl | exact Wk.t2 Wk.rfl (Wk.b1 rfl)) (by repeat' (first | exact True.intro | refine ⟨⟨_, _, _, rfl, rfl, rfl, WkO.rfl⟩, ?_⟩ | refine HeapOK.acc rfl rfl ?_ | refine HeapOK.es rfl rfl ?_)))))
theorem nis0_spec (ct : PC) : CallS Try.prog base 117 [.c (.ptr 0 0), .c (.p (.int .i64 0))] (hN0 ct) (.c (.p (.bool false))) (hN0 ct) := by
  refine CallS.of noNG lNIs.2 rfl (M.start (M.go rfl ?_))
  refine M.dec rfl (fun _ => ?_) (fun hn => absurd (by omega) hn)
  refine M.go rfl ?_
  refine M.use (by first | exact True.intro | exact rfl) (nlen0_spec ct) [(0, 0)] rfl rfl rfl (by repeat' (first | exact True.intro | refine ⟨⟨_, _, _, rfl, rfl, rfl, WkO.rfl⟩, ?_⟩ | refine HeapOK.acc rfl rfl ?_ | refine HeapOK.es rfl rfl ?_)) rfl rfl ?_
  refine M.go rfl ?_
  refine M.decC (s := 4) rfl (fun hn => absurd hn (by simp)) (fun _ => ?_)
  exact M.ret (M.go rfl (M.done (finQ.ret [(0, 0)] rfl rfl rfl (by first | exact Wk.rfl | exact Wk.uncap | exact Wk.nil | exact Wk.b1 rfl | exact Wk.t2 Wk.rfl (Wk.b1 rfl)) (by repeat' (first | exact True.intro | refine ⟨⟨_, _, _, rfl, rfl, rfl, WkO.rfl⟩, ?_⟩ | refine HeapOK.acc rfl rfl ?_ | refine HeapOK.es rfl rfl ?_)))))
noncomputable def lNDrop : {F : LF // lowerF Try.prog 80 = some F} := ⟨_, rfl⟩
theorem ndrop_spec (l : List PC) (p : Nat) (ct : PC) (i : Nat) (hi : i < l.length) (hl : l.length ≤ 1000) : CallS Try.prog base 80 [.c (.ptr 0 0), .c (.p (.int .i64 i))] (hN 1 l p ct) (.c (.p (.bool true))) (hN 1 (l.eraseIdx i) (p + 1) ct) := by
  have he : (l.eraseIdx i).length = l.length - 1 := by rw [List.length_eraseIdx, if_pos hi]
  refine CallS.of noNG lNDrop.2 rfl (M.start (M.go rfl ?_))
  refine M.use trivial (nis_yes l p ct i hi) [(0, 0), (1, 1)] rfl rfl rfl (by repeat' (first | exact True.intro | refine ⟨⟨_, _, _, rfl, rfl, rfl, WkO.rfl⟩, ?_⟩ | refine HeapOK.acc rfl rfl ?_ | refine HeapOK.es rfl rfl ?_)) rfl rfl ?_
  refine M.go rfl ?_
  rw [wr64 (n := (i : Int) + 1) (by omega) (by omega)]
  refine M.use trivial (del_spec l (List.replicate p nlP) i hi (by omega)) [(0, 1)] rfl rfl rfl (by repeat' (first | exact True.intro | refine ⟨⟨_, _, _, rfl, rfl, rfl, WkO.rfl⟩, ?_⟩ | refine HeapOK.acc rfl rfl ?_ | refine HeapOK.es rfl rfl ?_)) rfl rfl ?_
  refine M.go rfl ?_
  simp only [hN, he, List.replicate_succ]
  exact M.ret (M.go rfl (M.done (finQ.ret [(0, 0), (1, 1)] rfl rfl rfl (by first | exact Wk.rfl | exact Wk.uncap | exact Wk.nil | exact Wk.b1 rfl | exact Wk.t2 Wk.rfl (Wk.b1 rfl)) (by repeat' (first | exact True.intro | refine ⟨⟨_, _, _, rfl, rfl, rfl, WkO.rfl⟩, ?_⟩ | refine HeapOK.acc rfl rfl ?_ | refine HeapOK.es rfl rfl ?_)))))
noncomputable def lNTw : {F : LF // lowerF Try.prog 75 = some F} := ⟨_, rfl⟩
theorem ntwice_spec (l : List PC) (p : Nat) (ct : PC) (i : Nat) (x : List Int) (hi : l[i]? = some (pkP x)) (hx : x.length ≤ 1000000) (hl : l.length ≤ 1000) : CallS Try.prog base 75 [.c (.ptr 0 0), .c (.p (.int .i64 i))] (hN 1 l p ct) (.c (.p (.bool true))) (hN (pushA p) (pushL l (pkP x)) (pushR l p) ct) := by
  have hi2 : i < l.length := lt_of_get hi
  have hu : (l ++ List.replicate p nlP)[i]? = some (pkP x) := by rw [List.getElem?_append_left hi2]; exact hi
  refine CallS.of noNG lNTw.2 rfl (M.start (M.go rfl ?_))
  refine M.use trivial (nis_yes l p ct i hi2) [(0, 0), (1, 1)] rfl rfl rfl (by repeat' (first | exact True.intro | refine ⟨⟨_, _, _, rfl, rfl, rfl, WkO.rfl⟩, ?_⟩ | refine HeapOK.acc rfl rfl ?_ | refine HeapOK.es rfl rfl ?_)) rfl rfl ?_
  refine M.go rfl ?_
  refine M.op trivial (SOp.iaOn rfl rfl hi2) ?_
  refine M.op trivial (SOp.ld1O rfl rfl hu rfl rfl rfl) ?_
  refine M.go rfl ?_
  refine M.use0 trivial (bcl_spec false (u8P x) none (by rw [u8P_len]; omega)) rfl rfl rfl ?_
  refine M.go rfl ?_
  cases p with
  | zero =>
    refine M.use trivial (push_spec l 0 x ct hl) [(0, 0), (1, 1)] rfl rfl rfl (by repeat' (first | exact True.intro | refine ⟨⟨_, _, _, rfl, rfl, rfl, WkO.rfl⟩, ?_⟩ | refine HeapOK.acc rfl rfl ?_ | refine HeapOK.es rfl rfl ?_)) rfl rfl ?_
    refine M.go rfl ?_
    exact M.ret (M.go rfl (M.done (finQ.ret [(0, 0), (1, 1), (2, 2)] rfl rfl rfl (by first | exact Wk.rfl | exact Wk.uncap | exact Wk.nil | exact Wk.b1 rfl | exact Wk.t2 Wk.rfl (Wk.b1 rfl)) (by repeat' (first | exact True.intro | refine ⟨⟨_, _, _, rfl, rfl, rfl, WkO.rfl⟩, ?_⟩ | refine HeapOK.acc rfl rfl ?_ | refine HeapOK.es rfl rfl ?_)))))
  | succ p =>
    refine M.use trivial (push_spec l (p + 1) x ct hl) [(0, 0), (1, 1)] rfl rfl rfl (by repeat' (first | exact True.intro | refine ⟨⟨_, _, _, rfl, rfl, rfl, WkO.rfl⟩, ?_⟩ | refine HeapOK.acc rfl rfl ?_ | refine HeapOK.es rfl rfl ?_)) rfl rfl ?_
    refine M.go rfl ?_
    exact M.ret (M.go rfl (M.done (finQ.ret [(0, 0), (1, 1)] rfl rfl rfl (by first | exact Wk.rfl | exact Wk.uncap | exact Wk.nil | exact Wk.b1 rfl | exact Wk.t2 Wk.rfl (Wk.b1 rfl)) (by repeat' (first | exact True.intro | refine ⟨⟨_, _, _, rfl, rfl, rfl, WkO.rfl⟩, ?_⟩ | refine HeapOK.acc rfl rfl ?_ | refine HeapOK.es rfl rfl ?_)))))
noncomputable def lNHeal : {F : LF // lowerF Try.prog 78 = some F} := ⟨_, rfl⟩
theorem nheal_spec (l : List PC) (p : Nat) (ct : PC) : CallS Try.prog base 78 [.c (.ptr 0 0)] (hN 1 l p ct) (.tup []) (hN 1 l p ct0) := by
  refine CallS.of noNG lNHeal.2 rfl (M.start (M.go rfl ?_))
  exact M.done (finQ.normal [(0, 0), (1, 1)] rfl rfl rfl Wk.rfl ⟨⟨_, _, _, rfl, rfl, rfl, WkO.rfl⟩, ⟨_, _, _, rfl, rfl, rfl, WkO.row ⟨Wk.rfl, Wk.nil, trivial⟩⟩, trivial⟩)
noncomputable def lNSend : {F : LF // lowerF Try.prog 72 = some F} := ⟨_, rfl⟩
def PMsg.pk (m : PMsg) : List Int := sealB (msgB m.p)
theorem nsend0_spec (m : PMsg) (hm : m.good) (hB : Bytes (msgB m.p)) (hl : (msgB m.p).length ≤ 65536) (ct : PC) : CallS Try.prog base 72 [.c (.ptr 0 0), m.v] (hN0 ct) (.tup []) (hN 1 [pkP m.pk] 0 ct) := by
  have hsl : (u8P (sealB (msgB m.p))).length = 8 + (msgB m.p).length := by rw [u8P_len]; exact seal_len hl
  refine CallS.of noNG lNSend.2 rfl (M.start (M.go rfl ?_))
  refine M.use0 trivial (Msg_spec m hm) rfl rfl rfl ?_
  refine M.go rfl ?_
  refine M.use0 trivial (sealS_yes true none (msgB m.p) hB hl) rfl rfl rfl ?_
  refine M.go rfl ?_
  refine M.cond rfl (fun _ => ?_) (fun hn => absurd (by omega) hn)
  refine M.go rfl ?_
  refine M.use trivial (push0_spec m.pk ct) [(0, 0)] rfl rfl rfl (by repeat' (first | exact True.intro | refine ⟨⟨_, _, _, rfl, rfl, rfl, WkO.rfl⟩, ?_⟩ | refine HeapOK.acc rfl rfl ?_ | refine HeapOK.es rfl rfl ?_)) rfl rfl ?_
  exact M.go rfl (M.done (finQ.normal [(0, 0), (1, 2)] rfl rfl rfl Wk.rfl (by repeat' (first | exact True.intro | refine ⟨⟨_, _, _, rfl, rfl, rfl, WkO.rfl⟩, ?_⟩ | refine HeapOK.acc rfl rfl ?_ | refine HeapOK.es rfl rfl ?_))))
theorem nsend_spec (m : PMsg) (hm : m.good) (hB : Bytes (msgB m.p)) (hl : (msgB m.p).length ≤ 65536) (l : List PC) (p : Nat) (ct : PC) (hl2 : l.length ≤ 1000) : CallS Try.prog base 72 [.c (.ptr 0 0), m.v] (hN 1 l p ct) (.tup []) (hN (pushA p) (pushL l (pkP m.pk)) (pushR l p) ct) := by
  have hsl : (u8P (sealB (msgB m.p))).length = 8 + (msgB m.p).length := by rw [u8P_len]; exact seal_len hl
  refine CallS.of noNG lNSend.2 rfl (M.start (M.go rfl ?_))
  refine M.use0 trivial (Msg_spec m hm) rfl rfl rfl ?_
  refine M.go rfl ?_
  refine M.use0 trivial (sealS_yes true none (msgB m.p) hB hl) rfl rfl rfl ?_
  refine M.go rfl ?_
  refine M.cond rfl (fun _ => ?_) (fun hn => absurd (by omega) hn)
  refine M.go rfl ?_
  cases p with
  | zero =>
    refine M.use trivial (push_spec l 0 m.pk ct hl2) [(0, 0), (1, 1)] rfl rfl rfl (by repeat' (first | exact True.intro | refine ⟨⟨_, _, _, rfl, rfl, rfl, WkO.rfl⟩, ?_⟩ | refine HeapOK.acc rfl rfl ?_ | refine HeapOK.es rfl rfl ?_)) rfl rfl ?_
    exact M.go rfl (M.done (finQ.normal [(0, 0), (1, 1), (2, 3)] rfl rfl rfl Wk.rfl (by repeat' (first | exact True.intro | refine ⟨⟨_, _, _, rfl, rfl, rfl, WkO.rfl⟩, ?_⟩ | refine HeapOK.acc rfl rfl ?_ | refine HeapOK.es rfl rfl ?_))))
  | succ p =>
    refine M.use trivial (push_spec l (p + 1) m.pk ct hl2) [(0, 0), (1, 1)] rfl rfl rfl (by repeat' (first | exact True.intro | refine ⟨⟨_, _, _, rfl, rfl, rfl, WkO.rfl⟩, ?_⟩ | refine HeapOK.acc rfl rfl ?_ | refine HeapOK.es rfl rfl ?_)) rfl rfl ?_
    exact M.go rfl (M.done (finQ.normal [(0, 0), (1, 1)] rfl rfl rfl Wk.rfl (by repeat' (first | exact True.intro | refine ⟨⟨_, _, _, rfl, rfl, rfl, WkO.rfl⟩, ?_⟩ | refine HeapOK.acc rfl rfl ?_ | refine HeapOK.es rfl rfl ?_))))
noncomputable def lNPeek : {F : LF // lowerF Try.prog 74 = some F} := ⟨_, rfl⟩
def RS.ofB (xs : List Int) : PMsg × Int := RS.msgR ⟨false, xs, false⟩
attribute [local irreducible] RS.msgR
theorem npeek_spec (l : List PC) (p : Nat) (ct : PC) (i : Nat) (x : List Int) (hi : l[i]? = some (pkP (sealB x))) (hB : Bytes x) (hx : x.length ≤ 65536) : CallS Try.prog base 74 [.c (.ptr 0 0), .c (.p (.int .i64 i))] (hN 1 l p ct) (.tup [(RS.ofB x).1.v, .c (.p (.bs (decide ((RS.ofB x).2 = 0))))]) (hN 1 l p ct) := by
  have hi2 : i < l.length := lt_of_get hi
  have hu : (l ++ List.replicate p nlP)[i]? = some (pkP (sealB x)) := by rw [List.getElem?_append_left hi2]; exact hi
  refine CallS.of noNG lNPeek.2 rfl (M.start (M.go rfl ?_))
  refine M.use trivial (nis_yes l p ct i hi2) [(0, 0), (1, 1)] rfl rfl rfl (by repeat' (first | exact True.intro | refine ⟨⟨_, _, _, rfl, rfl, rfl, WkO.rfl⟩, ?_⟩ | refine HeapOK.acc rfl rfl ?_ | refine HeapOK.es rfl rfl ?_)) rfl rfl ?_
  refine M.go rfl ?_
  refine M.op trivial (SOp.iaOn rfl rfl hi2) ?_
  refine M.op trivial (SOp.ld1O rfl rfl hu rfl rfl rfl) ?_
  refine M.go rfl ?_
  have O := open_spec (base := base) false none (sealB x) (seal_bytes hB) (by rw [seal_len hx]; omega)
  rw [open_seal hx] at O
  refine M.use0 trivial O rfl rfl rfl ?_
  refine M.go rfl ?_
  refine M.decC (s := 27) rfl (fun hn => by cases hn) (fun _ => ?_)
  refine M.go rfl ?_
  refine M.use0 trivial (ReadMsg_spec false x none (by omega) hB) rfl rfl rfl ?_
  refine M.go rfl ?_
  exact M.ret (M.go rfl (M.done (finQ.ret [(0, 0), (1, 1)] rfl rfl rfl (Wk.of rfl) (by repeat' (first | exact True.intro | refine ⟨⟨_, _, _, rfl, rfl, rfl, WkO.rfl⟩, ?_⟩ | refine HeapOK.acc rfl rfl ?_ | refine HeapOK.es rfl rfl ?_)))))
theorem npeek0_spec (ct : PC) : CallS Try.prog base 74 [.c (.ptr 0 0), .c (.p (.int .i64 0))] (hN0 ct) (.tup [PMsg.zero.v, .c (.p (.bool false))]) (hN0 ct) := by
  refine CallS.of noNG lNPeek.2 rfl (M.start (M.go rfl ?_))
  refine M.use trivial (nis0_spec ct) [(0, 0)] rfl rfl rfl (by repeat' (first | exact True.intro | refine ⟨⟨_, _, _, rfl, rfl, rfl, WkO.rfl⟩, ?_⟩ | refine HeapOK.acc rfl rfl ?_ | refine HeapOK.es rfl rfl ?_)) rfl rfl ?_
  refine M.go rfl ?_
  exact M.ret (M.go rfl (M.done (finQ.ret [(0, 0)] rfl rfl rfl (Wk.of rfl) (by repeat' (first | exact True.intro | refine ⟨⟨_, _, _, rfl, rfl, rfl, WkO.rfl⟩, ?_⟩ | refine HeapOK.acc rfl rfl ?_ | refine HeapOK.es rfl rfl ?_)))))
noncomputable def lCtI : {F : LF // lowerF Try.prog 128 = some F} := ⟨_, rfl⟩
theorem ctidx0_spec (a b : Int) : CallS Try.prog base 128 [.c (.p ct0), .agg [.p (.int .i64 a), .p (.int .i64 b)]] ⟨[], 0⟩ (.c (.p (.int .i64 (-1)))) ⟨[], 0⟩ := by
  refine CallS.of noNG lCtI.2 rfl (M.start (M.go rfl ?_))
  refine M.loop (M.round (M.go rfl ?_))
  refine M.cond rfl (fun hn => absurd hn (by simp)) (fun _ => ?_)
  refine M.exit (M.go rfl (M.done (M.q (M.go rfl ?_))))
  exact M.ret (M.go rfl (M.done (finQ.ret [] rfl rfl rfl (by first | exact Wk.rfl | exact Wk.uncap | exact Wk.nil | exact Wk.b1 rfl | exact Wk.t2 Wk.rfl (Wk.b1 rfl)) (by repeat' (first | exact True.intro | refine ⟨⟨_, _, _, rfl, rfl, rfl, WkO.rfl⟩, ?_⟩ | refine HeapOK.acc rfl rfl ?_ | refine HeapOK.es rfl rfl ?_)))))
noncomputable def lCtC : {F : LF // lowerF Try.prog 119 = some F} := ⟨_, rfl⟩
theorem ctin0_spec (a b : Int) : CallS Try.prog base 119 [.c (.p ct0), .agg [.p (.int .i64 a), .p (.int .i64 b)]] ⟨[], 0⟩ (.c (.p (.bool false))) ⟨[], 0⟩ := by
  refine CallS.of noNG lCtC.2 rfl (M.start (M.go rfl ?_))
  refine M.use0 trivial (ctidx0_spec a b) rfl rfl rfl ?_
  refine M.go rfl ?_
  refine M.decC (s := 4) rfl (fun hn => absurd hn (by decide)) (fun _ => ?_)
  exact M.ret (M.go rfl (M.done (finQ.ret [] rfl rfl rfl (by first | exact Wk.rfl | exact Wk.uncap | exact Wk.nil | exact Wk.b1 rfl | exact Wk.t2 Wk.rfl (Wk.b1 rfl)) (by repeat' (first | exact True.intro | refine ⟨⟨_, _, _, rfl, rfl, rfl, WkO.rfl⟩, ?_⟩ | refine HeapOK.acc rfl rfl ?_ | refine HeapOK.es rfl rfl ?_)))))
noncomputable def lNTk : {F : LF // lowerF Try.prog 76 = some F} := ⟨_, rfl⟩
theorem ntake_spec (l : List PC) (p : Nat) (i : Nat) (x : List Int) (hi : l[i]? = some (pkP (sealB x))) (hB : Bytes x) (hx : x.length ≤ 65536) (hl : l.length ≤ 1000) (hok : (RS.ofB x).2 = 0) : CallS Try.prog base 76 [.c (.ptr 0 0), .c (.p (.int .i64 i))] (hN 1 l p ct0) (.tup [(RS.ofB x).1.v, .c (.p (.bool true))]) (hN 1 (l.eraseIdx i) (p + 1) ct0) := by
  have hi2 : i < l.length := lt_of_get hi
  refine CallS.of noNG lNTk.2 rfl (M.start (M.go rfl ?_))
  refine M.use trivial (npeek_spec l p ct0 i x hi hB hx) [(0, 0), (1, 1)] rfl rfl rfl (by repeat' (first | exact True.intro | refine ⟨⟨_, _, _, rfl, rfl, rfl, WkO.rfl⟩, ?_⟩ | refine HeapOK.acc rfl rfl ?_ | refine HeapOK.es rfl rfl ?_)) rfl rfl ?_
  refine M.go rfl ?_
  refine M.decC (s := 7) rfl (fun _ => ?_) (fun hn => absurd hn (by simpa using hok))
  refine M.go rfl ?_
  refine M.regD (MD.go rfl ?_)
  refine MD.use trivial (ndrop_spec l p ct0 i hi2 hl) [(0, 0), (1, 1)] rfl rfl rfl (by repeat' (first | exact True.intro | refine ⟨⟨_, _, _, rfl, rfl, rfl, WkO.rfl⟩, ?_⟩ | refine HeapOK.acc rfl rfl ?_ | refine HeapOK.es rfl rfl ?_)) rfl rfl ?_
  refine MD.go rfl ?_
  refine MD.use0 (by first | exact True.intro | exact rfl) (ctin0_spec (RS.ofB x).1.fr (RS.ofB x).1.to) rfl rfl rfl ?_
  refine MD.go rfl ?_
  refine MD.nil mixed (Fnl.nodup rfl) (M.go rfl ?_)
  refine M.go rfl ?_
  exact M.ret (M.go rfl (M.done (finQ.ret [(0, 0), (1, 1)] rfl rfl rfl (Wk.of rfl) (by repeat' (first | exact True.intro | refine ⟨⟨_, _, _, rfl, rfl, rfl, WkO.rfl⟩, ?_⟩ | refine HeapOK.acc rfl rfl ?_ | refine HeapOK.es rfl rfl ?_)))))
end Go.Proofs.Yteegdhfekemhmaa

namespace Go.Proofs.Yteegdhfekemhmaa
open Go.RowKit Sim Go Sym
set_option maxRecDepth 100000
set_option linter.unusedVariables false
set_option linter.unusedSimpArgs false
variable {base : Nat}
def nowM (fr to t : Int) : PMsg := ⟨9, fr, to, t, 0, 0, 0, true, [], false, 0, true, [], true, [], 0, 0, 0⟩
theorem nowM_raw {fr to t : Int} (h1 : InI64 fr) (h2 : InI64 to) (h3 : InI64 t) : (nowM fr to t).raw := by
  have z : InI64 0 := ⟨by omega, by omega⟩
  refine ⟨fun n hn => ?_, ⟨by simp [nowM], fun e he => by simp [nowM] at he⟩, z, ⟨by simp [nowM], fun e he => by simp [nowM] at he⟩, fun e he => by simp [nowM] at he, z, z, z⟩
  simp only [nowM, PMsg.hd, List.mem_cons, List.not_mem_nil, or_false] at hn
  rcases hn with rfl | rfl | rfl | rfl | rfl | rfl | rfl <;> first | exact ⟨by omega, by omega⟩ | assumption
theorem nowM_cut (fr to t : Int) : (nowM fr to t).cut.p = (nowM fr to t).p := by simp [nowM, PMsg.cut, PMsg.p, PMsg.hd]
structure Snd (m : PMsg) : Prop where
  good : m.good
  bytes : Bytes (msgB m.p)
  len : (msgB m.p).length ≤ 65536
  ok : (RS.ofB (msgB m.p)).2 = 0
  p : (RS.ofB (msgB m.p)).1.p = m.p
theorem nowM_snd {fr to t : Int} (h1 : InI64 fr) (h2 : InI64 to) (h3 : InI64 t) : Snd (nowM fr to t) := by
  have hr := nowM_raw h1 h2 h3
  have hg : (nowM fr to t).good := by
    have z : InI64 0 := ⟨by omega, by omega⟩
    exact ⟨hr.hd, ⟨by simp [nowM], fun e he => by simp [nowM] at he⟩, z, ⟨by simp [nowM], fun e he => by simp [nowM] at he⟩, ⟨by simp [nowM], fun e he => by simp [nowM] at he⟩, z, z, z⟩
  have hl := msgB_len hr
  rw [nowM_cut] at hl
  have hB := msgB_bytes hg
  obtain ⟨g1, g2⟩ := msg_read hg.p
  obtain ⟨k, g3, g4⟩ := msgR_yes (z := false) (by omega) hB g1
  exact ⟨hg, hB, by omega, by rw [RS.ofB, g3], by rw [RS.ofB, g3, g4, g2]⟩
theorem PMsg.p_tm {a b : PMsg} (h : a.p = b.p) : a.tm = b.tm ∧ a.fr = b.fr ∧ a.to = b.to := by
  simp only [PMsg.p, MsgP.mk.injEq, PMsg.hd, List.cons.injEq] at h
  exact ⟨h.1.2.2.2.1, h.1.2.1, h.1.2.2.1⟩
def pkt (t : Nat) : PC := pkP (nowM 1 2 t).pk
def lst (i : Nat) : List PC := (List.range i).map fun j => pkt (j + 1)
theorem lst_len (i : Nat) : (lst i).length = i := by simp [lst]
theorem lst_succ (i : Nat) : lst (i + 1) = lst i ++ [pkt (i + 1)] := by simp [lst, List.range_succ]
def LN (i : Nat) : List PC := (lst i).drop (i - 500)
def PN (i : Nat) : Nat := if i ≤ 500 then 0 else 1
theorem LN_len (i : Nat) : (LN i).length = min i 500 := by simp [LN, lst_len]; omega
theorem LN_push (i : Nat) : pushL (LN i) (pkt (i + 1)) = LN (i + 1) := by
  have h := LN_len i
  have hll := lst_len i
  unfold pushL
  split
  · have h5 : 500 ≤ i := by omega
    rw [List.eraseIdx_zero]
    show (LN i ++ [pkt (i + 1)]).tail = LN (i + 1)
    rw [LN, LN, lst_succ, ← List.drop_append_of_le_length (by omega), List.tail_drop, show i + 1 - 500 = i - 500 + 1 by omega]
  · have h5 : i < 500 := by omega
    rw [LN, LN, lst_succ, show i - 500 = 0 by omega, show i + 1 - 500 = 0 by omega]; rfl
theorem PN_push (i : Nat) : pushR (LN i) (PN i) = PN (i + 1) := by
  have h := LN_len i
  unfold pushR PN
  rw [h]
  split <;> split <;> split <;> omega
theorem LN_get {i : Nat} (h : 1 ≤ i) : (LN i)[0]? = some (pkt (i - 500 + 1)) := by
  simp only [LN, List.getElem?_drop, lst, List.getElem?_map, Nat.add_zero]
  rw [List.getElem?_range (by omega)]; rfl
noncomputable def lMany : {F : LF // lowerF Try.prog 15 = some F} := ⟨_, rfl⟩
theorem many_loop (N : Nat) (hn7 : N ≤ 700) (Q : QX) (hq : 1 ≤ N → Q (.exit 0) [(0, .c (.p (.int .i64 N))), (4, .c (.ptr 0 0))] (hN 1 (LN N) (PN N) ct0)) :
    ∀ (rem i : Nat), i + 1 + rem = N → XH Try.prog base lMany.1.n 0 (lMany.1.c.lp 0) [(0, .c (.p (.int .i64 N))), (4, .c (.ptr 0 0)), (5, .c (.p (.int .i64 (i + 1 : Nat))))] (hN 1 (LN (i + 1)) (PN (i + 1)) ct0) Q := by
  intro rem
  induction rem with
  | zero =>
    intro i hi
    have hq' := hq (by omega)
    rw [← hi] at hq' ⊢
    refine M.round (M.go rfl ?_)
    refine M.cond rfl (fun hc => absurd hc (by omega)) (fun _ => ?_)
    refine M.ren [(0, 0), (1, 1)] ?_ trivial rfl (by repeat' (first | exact True.intro | refine ⟨⟨_, _, rfl, rfl, Wk.rfl⟩, ?_⟩ | refine ⟨⟨_, _, accV_ren rfl, rfl, Wk.rfl⟩, ?_⟩ | refine ⟨⟨_, _, accV_ren rfl, rfl, Wk.acc0⟩, ?_⟩ | refine ⟨⟨_, _, rfl, rfl, Wk.uncap⟩, ?_⟩ | refine ⟨⟨_, _, rfl, rfl, Wk.nil⟩, ?_⟩)) (by repeat' (first | exact True.intro | refine ⟨⟨_, _, _, rfl, rfl, rfl, WkO.rfl⟩, ?_⟩ | refine HeapOK.acc rfl rfl ?_ | refine HeapOK.es rfl rfl ?_)) (e' := [(0, .c (.p (.int .i64 (i + 1 + 0 : Nat)))), (4, .c (.ptr 0 0))]) (h' := hN 1 (LN (i + 1)) (PN (i + 1)) ct0)
    exact M.exit (M.go rfl (M.done hq'))
  | succ rem ih =>
    intro i hi
    have ih' := ih (i + 1) (by omega)
    have hs := nowM_snd (fr := 1) (to := 2) (t := ((i + 1 + 1 : Nat) : Int)) ⟨by omega, by omega⟩ ⟨by omega, by omega⟩ ⟨by omega, by omega⟩
    have S := nsend_spec (base := base) (nowM 1 2 ((i + 1 + 1 : Nat) : Int)) hs.good hs.bytes hs.len (LN (i + 1)) (PN (i + 1)) ct0 (by rw [LN_len]; omega)
    rw [show pushL (LN (i + 1)) (pkP (nowM 1 2 ((i + 1 + 1 : Nat) : Int)).pk) = LN (i + 1 + 1) from LN_push (i + 1), PN_push] at S
    have hw : IntKind.i64.wrap (((i + 1 : Nat) : Int) + 1) = ((i + 1 + 1 : Nat) : Int) := by rw [wr64 (by omega) (by omega)]; omega
    refine M.round (M.go rfl ?_)
    refine M.cond rfl (fun _ => ?_) (fun hc => absurd (by omega) hc)
    refine M.go rfl ?_
    rw [hw]
    refine M.wkO (i := 26) (v' := (nowM 1 2 ((i + 1 + 1 : Nat) : Int)).v) rfl (Wk.of rfl) ?_
    by_cases h5 : i + 1 ≤ 500
    · have hp : PN (i + 1) = 0 := if_pos h5
      rw [hp] at S ⊢
      refine M.use trivial S [(0, 0), (1, 1)] rfl rfl rfl (by repeat' (first | exact True.intro | refine ⟨⟨_, _, _, rfl, rfl, rfl, WkO.rfl⟩, ?_⟩ | refine HeapOK.acc rfl rfl ?_ | refine HeapOK.es rfl rfl ?_)) rfl rfl ?_
      refine M.go rfl ?_
      rw [hw]
      exact M.again (XH.ren [(0, 0), (1, 2)] ih' rfl (by repeat' (first | exact True.intro | refine ⟨⟨_, _, rfl, rfl, Wk.rfl⟩, ?_⟩ | refine ⟨⟨_, _, accV_ren rfl, rfl, Wk.rfl⟩, ?_⟩ | refine ⟨⟨_, _, accV_ren rfl, rfl, Wk.acc0⟩, ?_⟩ | refine ⟨⟨_, _, rfl, rfl, Wk.uncap⟩, ?_⟩ | refine ⟨⟨_, _, rfl, rfl, Wk.nil⟩, ?_⟩)) (by repeat' (first | exact True.intro | refine ⟨⟨_, _, _, rfl, rfl, rfl, WkO.rfl⟩, ?_⟩ | refine HeapOK.acc rfl rfl ?_ | refine HeapOK.es rfl rfl ?_)))
    · have hp : PN (i + 1) = 1 := if_neg h5
      rw [hp] at S ⊢
      refine M.use trivial S [(0, 0), (1, 1)] rfl rfl rfl (by repeat' (first | exact True.intro | refine ⟨⟨_, _, _, rfl, rfl, rfl, WkO.rfl⟩, ?_⟩ | refine HeapOK.acc rfl rfl ?_ | refine HeapOK.es rfl rfl ?_)) rfl rfl ?_
      refine M.go rfl ?_
      rw [hw]
      exact M.again (XH.ren [(0, 0), (1, 1)] ih' rfl (by repeat' (first | exact True.intro | refine ⟨⟨_, _, rfl, rfl, Wk.rfl⟩, ?_⟩ | refine ⟨⟨_, _, accV_ren rfl, rfl, Wk.rfl⟩, ?_⟩ | refine ⟨⟨_, _, accV_ren rfl, rfl, Wk.acc0⟩, ?_⟩ | refine ⟨⟨_, _, rfl, rfl, Wk.uncap⟩, ?_⟩ | refine ⟨⟨_, _, rfl, rfl, Wk.nil⟩, ?_⟩)) (by repeat' (first | exact True.intro | refine ⟨⟨_, _, _, rfl, rfl, rfl, WkO.rfl⟩, ?_⟩ | refine HeapOK.acc rfl rfl ?_ | refine HeapOK.es rfl rfl ?_)))
theorem NetMany_spec (n : Int) : CallS Try.prog base 15 [.c (.p (.int .i64 n))] ⟨[], 0⟩ (.c (.p (.bool true))) ⟨[], 0⟩ := by
  refine CallS.of noNG lMany.2 rfl (M.start (M.go rfl ?_))
  refine M.use0 trivial begun23_spec rfl rfl rfl ?_
  refine M.go rfl ?_
  refine M.dec rfl (fun h1 => ?_) (fun h1 => ?_)
  · refine M.go rfl ?_
    exact M.ret (M.go rfl (M.done (finQ.ret [] rfl rfl rfl (by first | exact Wk.rfl | exact Wk.uncap | exact Wk.nil | exact Wk.b1 rfl | exact Wk.t2 Wk.rfl (Wk.b1 rfl)) (by repeat' (first | exact True.intro | refine ⟨⟨_, _, _, rfl, rfl, rfl, WkO.rfl⟩, ?_⟩ | refine HeapOK.acc rfl rfl ?_ | refine HeapOK.es rfl rfl ?_)))))
  refine M.go rfl ?_
  refine M.cond rfl (fun h2 => ?_) (fun h2 => ?_)
  · refine M.go rfl ?_
    exact M.ret (M.go rfl (M.done (finQ.ret [] rfl rfl rfl (by first | exact Wk.rfl | exact Wk.uncap | exact Wk.nil | exact Wk.b1 rfl | exact Wk.t2 Wk.rfl (Wk.b1 rfl)) (by repeat' (first | exact True.intro | refine ⟨⟨_, _, _, rfl, rfl, rfl, WkO.rfl⟩, ?_⟩ | refine HeapOK.acc rfl rfl ?_ | refine HeapOK.es rfl rfl ?_)))))
  obtain ⟨N, rfl⟩ : ∃ N : Nat, n = N := ⟨n.toNat, by omega⟩
  refine M.go rfl ?_
  refine M.use trivial nnew_spec [] rfl rfl rfl trivial rfl rfl ?_
  refine M.go rfl ?_
  by_cases h0 : N = 0
  · subst h0
    refine M.loop (M.round (M.go rfl ?_))
    refine M.cond rfl (fun hn => absurd hn (by simp)) (fun _ => ?_)
    refine M.exit (M.go rfl (M.done (M.q (M.go rfl ?_))))
    refine M.use trivial (nlen0_spec ct0) [(0, 0)] rfl rfl rfl (by repeat' (first | exact True.intro | refine ⟨⟨_, _, _, rfl, rfl, rfl, WkO.rfl⟩, ?_⟩ | refine HeapOK.acc rfl rfl ?_ | refine HeapOK.es rfl rfl ?_)) rfl rfl ?_
    refine M.go rfl ?_
    refine M.condN rfl (fun hn => absurd (by decide) hn) (fun _ => ?_)
    refine M.go rfl ?_
    refine M.use trivial (npeek0_spec ct0) [(0, 0)] rfl rfl rfl (by repeat' (first | exact True.intro | refine ⟨⟨_, _, _, rfl, rfl, rfl, WkO.rfl⟩, ?_⟩ | refine HeapOK.acc rfl rfl ?_ | refine HeapOK.es rfl rfl ?_)) rfl rfl ?_
    refine M.go rfl ?_
    refine M.decB rfl (fun _ => ?_) (fun hn => absurd hn (by simp))
    refine M.go rfl ?_
    refine M.dec rfl (fun _ => ?_) (fun hn => absurd (by simp) hn)
    refine M.go rfl ?_
    exact M.ret (M.go rfl (M.done (finQ.ret [] rfl rfl rfl (by first | exact Wk.rfl | exact Wk.uncap | exact Wk.nil | exact Wk.b1 rfl | exact Wk.t2 Wk.rfl (Wk.b1 rfl)) (by repeat' (first | exact True.intro | refine ⟨⟨_, _, _, rfl, rfl, rfl, WkO.rfl⟩, ?_⟩ | refine HeapOK.acc rfl rfl ?_ | refine HeapOK.es rfl rfl ?_)))))
  · have hs := nowM_snd (fr := 1) (to := 2) (t := ((0 + 1 : Nat) : Int)) ⟨by omega, by omega⟩ ⟨by omega, by omega⟩ ⟨by omega, by omega⟩
    have S := nsend0_spec (base := base) (nowM 1 2 ((0 + 1 : Nat) : Int)) hs.good hs.bytes hs.len ct0
    refine M.loop (M.round (M.go rfl ?_))
    refine M.cond rfl (fun _ => ?_) (fun hn => absurd (by omega) hn)
    refine M.go rfl ?_
    rw [show IntKind.i64.wrap (0 + 1) = ((0 + 1 : Nat) : Int) from rfl]
    refine M.wkO (i := 26) (v' := (nowM 1 2 ((0 + 1 : Nat) : Int)).v) rfl (Wk.of rfl) ?_
    refine M.use trivial S [(0, 0)] rfl rfl rfl (by repeat' (first | exact True.intro | refine ⟨⟨_, _, _, rfl, rfl, rfl, WkO.rfl⟩, ?_⟩ | refine HeapOK.acc rfl rfl ?_ | refine HeapOK.es rfl rfl ?_)) rfl rfl ?_
    refine M.go rfl ?_
    rw [show IntKind.i64.wrap (0 + 1) = ((0 + 1 : Nat) : Int) from rfl]
    refine M.again (XH.ren [(0, 0), (1, 1)] (many_loop N (by omega) _ (fun h => ?_) (N - 1) 0 (by omega)) rfl (by repeat' (first | exact True.intro | refine ⟨⟨_, _, rfl, rfl, Wk.rfl⟩, ?_⟩ | refine ⟨⟨_, _, accV_ren rfl, rfl, Wk.rfl⟩, ?_⟩ | refine ⟨⟨_, _, accV_ren rfl, rfl, Wk.acc0⟩, ?_⟩ | refine ⟨⟨_, _, rfl, rfl, Wk.uncap⟩, ?_⟩ | refine ⟨⟨_, _, rfl, rfl, Wk.nil⟩, ?_⟩)) (by repeat' (first | exact True.intro | refine ⟨⟨_, _, _, rfl, rfl, rfl, WkO.rfl⟩, ?_⟩ | refine HeapOK.acc rfl rfl ?_ | refine HeapOK.es rfl rfl ?_)))
    refine M.q (M.go rfl (M.done (M.q (M.go rfl ?_))))
    have h1 : 1 ≤ N := h
    have S2 := npeek_spec (base := base) (LN N) (PN N) ct0 0 (msgB (nowM 1 2 ((N - 500 + 1 : Nat) : Int)).p) (LN_get h1) (nowM_snd (fr := 1) (to := 2) (t := ((N - 500 + 1 : Nat) : Int)) ⟨by omega, by omega⟩ ⟨by omega, by omega⟩ ⟨by omega, by omega⟩).bytes (nowM_snd (fr := 1) (to := 2) (t := ((N - 500 + 1 : Nat) : Int)) ⟨by omega, by omega⟩ ⟨by omega, by omega⟩ ⟨by omega, by omega⟩).len
    have S3 := (nowM_snd (fr := 1) (to := 2) (t := ((N - 500 + 1 : Nat) : Int)) ⟨by omega, by omega⟩ ⟨by omega, by omega⟩ ⟨by omega, by omega⟩)
    have S4 := (PMsg.p_tm S3.p).1
    have S5 := S3.ok
    generalize RS.ofB (msgB (nowM 1 2 ((N - 500 + 1 : Nat) : Int)).p) = R at S2 S4 S5
    refine M.use trivial (nlen_spec (LN N) (PN N) ct0) [(0, 0), (1, 1)] rfl rfl rfl (by repeat' (first | exact True.intro | refine ⟨⟨_, _, _, rfl, rfl, rfl, WkO.rfl⟩, ?_⟩ | refine HeapOK.acc rfl rfl ?_ | refine HeapOK.es rfl rfl ?_)) rfl rfl ?_
    refine M.go rfl ?_
    refine M.condN rfl (fun hn => absurd ?_ hn) (fun _ => ?_)
    · rw [LN_len]; unfold minI; split <;> omega
    refine M.go rfl ?_
    refine M.use trivial S2 [(0, 0), (1, 1)] rfl rfl rfl (by repeat' (first | exact True.intro | refine ⟨⟨_, _, _, rfl, rfl, rfl, WkO.rfl⟩, ?_⟩ | refine HeapOK.acc rfl rfl ?_ | refine HeapOK.es rfl rfl ?_)) rfl rfl ?_
    refine M.go rfl ?_
    refine M.decB rfl (fun _ => ?_) (fun hn => absurd hn (by simp [S5]; omega))
    refine M.go rfl ?_
    refine M.dec rfl (fun hn => absurd hn (by omega)) (fun _ => ?_)
    refine M.go rfl ?_
    rw [S4, wr64 (n := (N : Int) - 499) (by omega) (by omega)]
    refine M.decC (s := 2) rfl (fun _ => ?_) (fun hn => absurd hn ?_)
    · exact M.ret (M.go rfl (M.done (finQ.ret [] rfl rfl rfl (by first | exact Wk.rfl | exact Wk.uncap | exact Wk.nil | exact Wk.b1 rfl | exact Wk.t2 Wk.rfl (Wk.b1 rfl)) (by repeat' (first | exact True.intro | refine ⟨⟨_, _, _, rfl, rfl, rfl, WkO.rfl⟩, ?_⟩ | refine HeapOK.acc rfl rfl ?_ | refine HeapOK.es rfl rfl ?_)))))
    · simp only [nowM, Bool.not_eq_false]
      refine decide_eq_true ?_
      unfold maxI
      split <;> omega
theorem NetMany_law {p0 : PC} (h0 : Is (.int .i64) p0) : CallS Try.prog base 15 [xvP p0] ⟨[], 0⟩ (.c (.p (.bool true))) ⟨[], 0⟩ := by
  obtain ⟨n, rfl, -⟩ := h0.i64
  exact NetMany_spec n
end Go.Proofs.Yteegdhfekemhmaa

namespace Go.Proofs.Yteegdhfekemhmaa
open Go.RowKit Sim Go Sym
set_option maxRecDepth 100000
set_option linter.unusedVariables false
set_option linter.unusedSimpArgs false
variable {base : Nat}
def wP (W : List Nat) : List PC := W.map fun (t : Nat) => PC.int .i64 (t : Int)
def pks (W : List Nat) : List PC := W.map pkt
theorem wP_len (W : List Nat) : (wP W).length = W.length := by simp [wP]
theorem pks_len (W : List Nat) : (pks W).length = W.length := by simp [pks]
theorem wP_app (a b : List Nat) : wP (a ++ b) = wP a ++ wP b := by simp [wP]
theorem pks_app (a b : List Nat) : pks (a ++ b) = pks a ++ pks b := by simp [pks]
theorem push_small (W : List Nat) (t : Nat) (h : W.length < 400) : pushL (pks W) (pkt t) = pks (W ++ [t]) ∧ pushR (pks W) 0 = 0 := by
  have hl := pks_len W
  constructor
  · rw [pushL, if_neg (by omega), pks_app]; rfl
  · rw [pushR, if_neg (by omega)]
theorem snd_of (t : Nat) (h : t ≤ 1000) : Snd (nowM 1 2 (t : Int)) := nowM_snd ⟨by omega, by omega⟩ ⟨by omega, by omega⟩ ⟨by omega, by omega⟩
def hO (l : List PC) (W : List Nat) : HS := ⟨[(2, accO 1 (wP W)), (1, some (.els 1 (l ++ List.replicate 0 nlP))), (0, some (.row [.sl 1 0 l.length 1 none, .p ct0] true))], 3⟩
noncomputable def lOrd : {F : LF // lowerF Try.prog 16 = some F} := ⟨_, rfl⟩
def one2 (n : Nat) : List Nat := (List.range n).map (· + 1)
theorem one2_len (n : Nat) : (one2 n).length = n := by simp [one2]
theorem one2_succ (n : Nat) : one2 (n + 1) = one2 n ++ [n + 1] := by simp [one2, List.range_succ]
def oE (N : Nat) (T : XV) (W : List Nat) : Env := [(0, .c (.p (.int .i64 N))), (1, T), (6, .c (.ptr 0 0)), (7, accV 2 1 (wP W))]
theorem ord_send (N : Nat) (hn6 : N ≤ 60) (zt : Bool) (tw : List PC) (ct : Option Nat) (Q : QX) (hq : 1 ≤ N → Q (.exit 0) (oE N (.c (.p (.tz zt 1 tw ct))) (one2 N)) (hO (pks (one2 N)) (one2 N))) :
    ∀ (rem i : Nat), i + 1 + rem = N → XH Try.prog base lOrd.1.n 0 (lOrd.1.c.lp 0) ((8, .c (.p (.int .i64 (i + 1 : Nat)))) :: oE N (.c (.p (.tz zt 1 tw ct))) (one2 (i + 1))) (hO (pks (one2 (i + 1))) (one2 (i + 1))) Q := by
  intro rem
  induction rem with
  | zero =>
    intro i hi
    obtain rfl : N = i + 1 := by omega
    have hq' := hq (by omega)
    refine M.round (M.go rfl ?_)
    refine M.cond rfl (fun hc => absurd hc (by omega)) (fun _ => ?_)
    refine M.ren [(0, 0), (1, 1), (2, 2)] ?_ trivial rfl (by repeat' (first | exact True.intro | refine ⟨⟨_, _, rfl, rfl, Wk.rfl⟩, ?_⟩ | refine ⟨⟨_, _, accV_ren rfl, rfl, Wk.rfl⟩, ?_⟩ | refine ⟨⟨_, _, accV_ren rfl, rfl, Wk.acc0⟩, ?_⟩ | refine ⟨⟨_, _, rfl, rfl, Wk.uncap⟩, ?_⟩ | refine ⟨⟨_, _, rfl, rfl, Wk.nil⟩, ?_⟩)) (by repeat' (first | exact True.intro | refine ⟨⟨_, _, _, rfl, rfl, rfl, WkO.rfl⟩, ?_⟩ | refine HeapOK.acc rfl rfl ?_ | refine HeapOK.es rfl rfl ?_)) (e' := oE (i + 1) (.c (.p (.tz zt 1 tw ct))) (one2 (i + 1))) (h' := hO (pks (one2 (i + 1))) (one2 (i + 1)))
    exact M.exit (M.go rfl (M.done hq'))
  | succ rem ih =>
    intro i hi
    have ih' := ih (i + 1) (by omega)
    have hs := snd_of (i + 1 + 1) (by omega)
    have hol := one2_len (i + 1)
    have S := nsend_spec (base := base) (nowM 1 2 ((i + 1 + 1 : Nat) : Int)) hs.good hs.bytes hs.len (pks (one2 (i + 1))) 0 ct0 (by rw [pks_len, hol]; omega)
    obtain ⟨p1, p2⟩ := push_small (one2 (i + 1)) (i + 1 + 1) (by omega)
    rw [show pushL (pks (one2 (i + 1))) (pkP (nowM 1 2 ((i + 1 + 1 : Nat) : Int)).pk) = pks (one2 (i + 1) ++ [i + 1 + 1]) from p1, p2, ← one2_succ] at S
    have hw : IntKind.i64.wrap (((i + 1 : Nat) : Int) + 1) = ((i + 1 + 1 : Nat) : Int) := by rw [wr64 (by omega) (by omega)]; omega
    refine M.round (M.go rfl ?_)
    refine M.cond rfl (fun _ => ?_) (fun hc => absurd (by omega) hc)
    refine M.go rfl ?_
    rw [hw]
    refine M.wkO (i := 32) (v' := (nowM 1 2 ((i + 1 + 1 : Nat) : Int)).v) rfl (Wk.of rfl) ?_
    refine M.use trivial S [(0, 0), (1, 1)] rfl rfl rfl (by repeat' (first | exact True.intro | refine ⟨⟨_, _, _, rfl, rfl, rfl, WkO.rfl⟩, ?_⟩ | refine HeapOK.acc rfl rfl ?_ | refine HeapOK.es rfl rfl ?_)) rfl rfl ?_
    refine M.go rfl ?_
    rw [hw]
    refine M.acc trivial rfl rfl rfl (.own rfl rfl) (by simp) (by rw [wP_len, hol]; simp; omega) ?_
    rw [show wP (one2 (i + 1)) ++ [PC.int .i64 ((i + 1 + 1 : Nat) : Int)] = wP (one2 (i + 1 + 1)) by rw [one2_succ (i + 1), wP_app]; rfl]
    refine M.go rfl ?_
    rw [hw]
    exact M.again (XH.ren [(0, 0), (1, 3), (2, 5)] ih' rfl (by repeat' (first | exact True.intro | refine ⟨⟨_, _, rfl, rfl, Wk.rfl⟩, ?_⟩ | refine ⟨⟨_, _, accV_ren rfl, rfl, Wk.rfl⟩, ?_⟩ | refine ⟨⟨_, _, accV_ren rfl, rfl, Wk.acc0⟩, ?_⟩ | refine ⟨⟨_, _, rfl, rfl, Wk.uncap⟩, ?_⟩ | refine ⟨⟨_, _, rfl, rfl, Wk.nil⟩, ?_⟩)) (by repeat' (first | exact True.intro | refine ⟨⟨_, _, _, rfl, rfl, rfl, WkO.rfl⟩, ?_⟩ | refine HeapOK.acc rfl rfl ?_ | refine HeapOK.es rfl rfl ?_)))
theorem SOp.remN {P : Program} {n : Nat} {e : Env} {h : HS} {nk : NK} {x y : LX} {i : IntKind} {a b : Int} (hx : xev e x = some (.c (.p (.int i a)))) (hy : xev e y = some (.c (.p (.int i b)))) (h0 : b ≠ 0) : SOp P n (.bin nk .rem x y) e h (.c (.p (.int i (a.tmod b)))) h :=
  SOp.bin hx hy (by simp only [binX, if_true, intX]; rw [if_neg h0])
theorem tmodN (a : Int) (N : Nat) (h : 0 < N) : -(N : Int) < a.tmod N ∧ a.tmod N < N := by
  have h1 := Int.natAbs_tmod a N
  have h2 : a.natAbs % N < N := Nat.mod_lt _ h
  simp only [Int.natAbs_natCast] at h1
  omega
structure Wok (N : Nat) (W : List Nat) : Prop where
  pre : ∀ k, k < N → W[k]? = some (k + 1)
  le : ∀ t ∈ W, t ≤ 100
theorem Wok.one {N : Nat} (h : N ≤ 60) : Wok N (one2 N) := ⟨fun k hk => by simp [one2, hk], fun t ht => by simp only [one2, List.mem_map, List.mem_range] at ht; obtain ⟨a, h1, rfl⟩ := ht; omega⟩
theorem Wok.app {N : Nat} {W : List Nat} (h : Wok N W) (k : Nat) (hk : k < N) (hN : N ≤ 60) : Wok N (W ++ [k + 1]) := ⟨fun j hj => by
  have := h.pre j hj
  rw [List.getElem?_append_left (lt_of_get this)]; exact this, fun t ht => by
  rcases List.mem_append.1 ht with h1 | h1
  · exact h.le t h1
  · simp at h1; omega⟩
theorem ord_twice (N : Nat) (h1N : 1 ≤ N) (hn6 : N ≤ 60) (zt : Bool) (T : List Int) (ct : Option Nat) (hT : T.length ≤ 100000000000000) (Q : QX) (hq : ∀ W, Wok N W → W.length ≤ 80 → W ≠ [] → Q (.exit 2) (oE N (.c (.p (.tz zt 1 (inP T) ct))) W) (hO (pks W) W)) :
    ∀ (rem j : Nat) (W : List Nat), j + rem = 20 → Wok N W → W.length = N + j → XH Try.prog base lOrd.1.n 0 (lOrd.1.c.lp 1) ((9, .c (.p (.int .i64 j))) :: oE N (.c (.p (.tz zt 1 (inP T) ct))) W) (hO (pks W) W) Q := by
  have hTl : (inP T).length = T.length := by simp [inP]
  intro rem
  induction rem with
  | zero =>
    intro j W hj hW hl
    obtain rfl : j = 20 := by omega
    have hne : W ≠ [] := by intro e; rw [e] at hl; simp at hl
    refine M.round (M.go rfl ?_)
    refine M.dec rfl (fun h1 => ?_) (fun h1 => ?_)
    · refine M.go rfl ?_
      refine M.dec rfl (fun h2 => absurd h2 (by omega)) (fun h2 => ?_)
      refine M.go rfl ?_
      refine M.ren [(0, 0), (1, 1), (2, 2)] ?_ trivial rfl (by repeat' (first | exact True.intro | refine ⟨⟨_, _, rfl, rfl, Wk.rfl⟩, ?_⟩ | refine ⟨⟨_, _, accV_ren rfl, rfl, Wk.rfl⟩, ?_⟩ | refine ⟨⟨_, _, accV_ren rfl, rfl, Wk.acc0⟩, ?_⟩ | refine ⟨⟨_, _, rfl, rfl, Wk.uncap⟩, ?_⟩ | refine ⟨⟨_, _, rfl, rfl, Wk.nil⟩, ?_⟩)) (by repeat' (first | exact True.intro | refine ⟨⟨_, _, _, rfl, rfl, rfl, WkO.rfl⟩, ?_⟩ | refine HeapOK.acc rfl rfl ?_ | refine HeapOK.es rfl rfl ?_)) (e' := oE N (.c (.p (.tz zt 1 (inP T) ct))) W) (h' := hO (pks W) W)
      exact M.exit (M.go rfl (M.done (hq W hW (by omega) hne)))
    · refine M.go rfl ?_
      refine M.ren [(0, 0), (1, 1), (2, 2)] ?_ trivial rfl (by repeat' (first | exact True.intro | refine ⟨⟨_, _, rfl, rfl, Wk.rfl⟩, ?_⟩ | refine ⟨⟨_, _, accV_ren rfl, rfl, Wk.rfl⟩, ?_⟩ | refine ⟨⟨_, _, accV_ren rfl, rfl, Wk.acc0⟩, ?_⟩ | refine ⟨⟨_, _, rfl, rfl, Wk.uncap⟩, ?_⟩ | refine ⟨⟨_, _, rfl, rfl, Wk.nil⟩, ?_⟩)) (by repeat' (first | exact True.intro | refine ⟨⟨_, _, _, rfl, rfl, rfl, WkO.rfl⟩, ?_⟩ | refine HeapOK.acc rfl rfl ?_ | refine HeapOK.es rfl rfl ?_)) (e' := oE N (.c (.p (.tz zt 1 (inP T) ct))) W) (h' := hO (pks W) W)
      exact M.exit (M.go rfl (M.done (hq W hW (by omega) hne)))
  | succ rem ih =>
    intro j W hj hW hl
    have hne : W ≠ [] := by intro e; rw [e] at hl; simp at hl; omega
    refine M.round (M.go rfl ?_)
    refine M.dec rfl (fun h1 => ?_) (fun h1 => ?_)
    · refine M.go rfl ?_
      refine M.dec rfl (fun h2 => ?_) (fun h2 => absurd (by omega) h2)
      refine M.go rfl ?_
      refine M.cond rfl (fun h3 => ?_) (fun h3 => absurd (by omega) h3)
      refine M.go rfl ?_
      have h1' : j < T.length := by rw [hTl] at h1; omega
      have hu : (inP T)[((j : Int)).toNat]? = some (.int .i64 (T[j])) := by
        rw [show ((j : Int)).toNat = j by omega]; simp [inP, h1']
      obtain ⟨t, ht⟩ : ∃ t, t = T[j] := ⟨_, rfl⟩
      rw [← ht] at hu
      refine M.op trivial (SOp.ia rfl rfl (by omega) hu) ?_
      refine M.op trivial (SOp.ld1e rfl hu rfl rfl rfl) ?_
      refine M.go rfl ?_
      refine M.op trivial (SOp.remN rfl rfl (by omega)) ?_
      have hr := tmodN t N (by omega)
      generalize t.tmod (N : Int) = r at hr
      obtain ⟨k, hk⟩ : ∃ k : Nat, k = r.natAbs := ⟨_, rfl⟩
      have hkN : k < N := by omega
      have hw2 : IntKind.i64.wrap ((j : Int) + 1) = ((j + 1 : Nat) : Int) := by rw [wr64 (by omega) (by omega)]; omega
      have hwk : IntKind.i64.wrap ((k : Int) + 1) = ((k + 1 : Nat) : Int) := by rw [wr64 (by omega) (by omega)]; omega
      have hs := snd_of (k + 1) (by omega)
      have hpk : (pks W)[k]? = some (pkP (nowM 1 2 ((k + 1 : Nat) : Int)).pk) := by rw [pks, List.getElem?_map, hW.pre k hkN]; rfl
      have S := ntwice_spec (base := base) (pks W) 0 ct0 k (nowM 1 2 ((k + 1 : Nat) : Int)).pk hpk (by have := hs.len; rw [PMsg.pk, seal_len hs.len]; omega) (by rw [pks_len]; omega)
      obtain ⟨p1, p2⟩ := push_small W (k + 1) (by omega)
      rw [show pushL (pks W) (pkP (nowM 1 2 ((k + 1 : Nat) : Int)).pk) = pks (W ++ [k + 1]) from p1, p2] at S
      have ih' := ih (j + 1) (W ++ [k + 1]) (by omega) (hW.app k hkN hn6) (by simp; omega)
      refine M.go rfl ?_
      refine M.cond rfl (fun h4 => ?_) (fun h4 => ?_)
      · refine M.go rfl ?_
        rw [show IntKind.i64.wrap (0 - r) = (k : Int) by rw [wr64 (by omega) (by omega)]; omega]
        refine M.use trivial S [(0, 0), (1, 1)] rfl rfl rfl (by repeat' (first | exact True.intro | refine ⟨⟨_, _, _, rfl, rfl, rfl, WkO.rfl⟩, ?_⟩ | refine HeapOK.acc rfl rfl ?_ | refine HeapOK.es rfl rfl ?_)) rfl rfl ?_
        refine M.go rfl ?_
        rw [hwk]
        refine M.acc trivial rfl rfl rfl (.own rfl rfl) (by simp) (by rw [wP_len]; simp; omega) ?_
        rw [show wP W ++ [PC.int .i64 ((k + 1 : Nat) : Int)] = wP (W ++ [k + 1]) by rw [wP_app]; rfl]
        refine M.go rfl ?_
        rw [hw2]
        exact M.again (XH.ren [(0, 0), (1, 3), (2, 5)] ih' rfl (by repeat' (first | exact True.intro | refine ⟨⟨_, _, rfl, rfl, Wk.rfl⟩, ?_⟩ | refine ⟨⟨_, _, accV_ren rfl, rfl, Wk.rfl⟩, ?_⟩ | refine ⟨⟨_, _, accV_ren rfl, rfl, Wk.acc0⟩, ?_⟩ | refine ⟨⟨_, _, rfl, rfl, Wk.uncap⟩, ?_⟩ | refine ⟨⟨_, _, rfl, rfl, Wk.nil⟩, ?_⟩)) (by repeat' (first | exact True.intro | refine ⟨⟨_, _, _, rfl, rfl, rfl, WkO.rfl⟩, ?_⟩ | refine HeapOK.acc rfl rfl ?_ | refine HeapOK.es rfl rfl ?_)))
      · obtain rfl : r = (k : Int) := by omega
        refine M.go rfl ?_
        refine M.use trivial S [(0, 0), (1, 1)] rfl rfl rfl (by repeat' (first | exact True.intro | refine ⟨⟨_, _, _, rfl, rfl, rfl, WkO.rfl⟩, ?_⟩ | refine HeapOK.acc rfl rfl ?_ | refine HeapOK.es rfl rfl ?_)) rfl rfl ?_
        refine M.go rfl ?_
        rw [hwk]
        refine M.acc trivial rfl rfl rfl (.own rfl rfl) (by simp) (by rw [wP_len]; simp; omega) ?_
        rw [show wP W ++ [PC.int .i64 ((k + 1 : Nat) : Int)] = wP (W ++ [k + 1]) by rw [wP_app]; rfl]
        refine M.go rfl ?_
        rw [hw2]
        exact M.again (XH.ren [(0, 0), (1, 3), (2, 5)] ih' rfl (by repeat' (first | exact True.intro | refine ⟨⟨_, _, rfl, rfl, Wk.rfl⟩, ?_⟩ | refine ⟨⟨_, _, accV_ren rfl, rfl, Wk.rfl⟩, ?_⟩ | refine ⟨⟨_, _, accV_ren rfl, rfl, Wk.acc0⟩, ?_⟩ | refine ⟨⟨_, _, rfl, rfl, Wk.uncap⟩, ?_⟩ | refine ⟨⟨_, _, rfl, rfl, Wk.nil⟩, ?_⟩)) (by repeat' (first | exact True.intro | refine ⟨⟨_, _, _, rfl, rfl, rfl, WkO.rfl⟩, ?_⟩ | refine HeapOK.acc rfl rfl ?_ | refine HeapOK.es rfl rfl ?_)))
    · refine M.go rfl ?_
      refine M.ren [(0, 0), (1, 1), (2, 2)] ?_ trivial rfl (by repeat' (first | exact True.intro | refine ⟨⟨_, _, rfl, rfl, Wk.rfl⟩, ?_⟩ | refine ⟨⟨_, _, accV_ren rfl, rfl, Wk.rfl⟩, ?_⟩ | refine ⟨⟨_, _, accV_ren rfl, rfl, Wk.acc0⟩, ?_⟩ | refine ⟨⟨_, _, rfl, rfl, Wk.uncap⟩, ?_⟩ | refine ⟨⟨_, _, rfl, rfl, Wk.nil⟩, ?_⟩)) (by repeat' (first | exact True.intro | refine ⟨⟨_, _, _, rfl, rfl, rfl, WkO.rfl⟩, ?_⟩ | refine HeapOK.acc rfl rfl ?_ | refine HeapOK.es rfl rfl ?_)) (e' := oE N (.c (.p (.tz zt 1 (inP T) ct))) W) (h' := hO (pks W) W)
      exact M.exit (M.go rfl (M.done (hq W hW (by omega) hne)))
theorem take_one (t : Nat) (rest : List Nat) (p : Nat) (h : t ≤ 1000) (hl : rest.length ≤ 500) : ∃ R : PMsg, R.tm = t ∧ CallS Try.prog base 76 [.c (.ptr 0 0), .c (.p (.int .i64 (0 : Nat)))] (hN 1 (pks (t :: rest)) p ct0) (.tup [R.v, .c (.p (.bool true))]) (hN 1 (pks rest) (p + 1) ct0) := by
  have hs := snd_of t h
  refine ⟨(RS.ofB (msgB (nowM 1 2 (t : Int)).p)).1, (PMsg.p_tm hs.p).1, ?_⟩
  exact ntake_spec (base := base) (pks (t :: rest)) p 0 (msgB (nowM 1 2 (t : Int)).p) rfl hs.bytes hs.len (by rw [pks_len]; simp; omega) hs.ok
theorem ord_take (W : List Nat) (hW : ∀ t ∈ W, t ≤ 100) (hl : W.length ≤ 80) (Q : QX) (hq : Q (.exit 4) [(6, .c (.ptr 0 0))] (hN 1 (pks []) W.length ct0)) :
    ∀ (rest pre : List Nat), W = pre ++ rest → XH Try.prog base lOrd.1.n 0 (lOrd.1.c.lp 2) [(6, .c (.ptr 0 0)), (7, .c (.p (.tz true 1 (wP W) none))), (11, .c (.p (.int .i64 pre.length)))] (hN 1 (pks rest) pre.length ct0) Q := by
  have hWl := wP_len W
  intro rest
  induction rest with
  | nil =>
    intro pre hp
    have hlen : W.length = pre.length := by rw [hp]; simp
    rw [hlen] at hq
    refine M.round (M.go rfl ?_)
    refine M.cond rfl (fun hc => absurd hc (by omega)) (fun _ => ?_)
    refine M.ren [(0, 0), (1, 1)] ?_ trivial rfl (by repeat' (first | exact True.intro | refine ⟨⟨_, _, rfl, rfl, Wk.rfl⟩, ?_⟩ | refine ⟨⟨_, _, accV_ren rfl, rfl, Wk.rfl⟩, ?_⟩ | refine ⟨⟨_, _, accV_ren rfl, rfl, Wk.acc0⟩, ?_⟩ | refine ⟨⟨_, _, rfl, rfl, Wk.uncap⟩, ?_⟩ | refine ⟨⟨_, _, rfl, rfl, Wk.nil⟩, ?_⟩)) (by repeat' (first | exact True.intro | refine ⟨⟨_, _, _, rfl, rfl, rfl, WkO.rfl⟩, ?_⟩ | refine HeapOK.acc rfl rfl ?_ | refine HeapOK.es rfl rfl ?_)) (e' := [(6, .c (.ptr 0 0))]) (h' := hN 1 (pks []) pre.length ct0)
    exact M.exit (M.go rfl (M.done hq))
  | cons t rest ih =>
    intro pre hp
    have hlen : W.length = pre.length + (rest.length + 1) := by rw [hp]; simp
    obtain ⟨R, hR, S⟩ := take_one (base := base) t rest pre.length (by have := hW t (by rw [hp]; simp); omega) (by omega)
    have hw2 : IntKind.i64.wrap ((pre.length : Int) + 1) = ((pre ++ [t]).length : Int) := by rw [wr64 (by omega) (by omega)]; simp
    have ih' := ih (pre ++ [t]) (by rw [hp]; simp)
    have hu : (wP W)[((pre.length : Int)).toNat]? = some (.int .i64 (t : Int)) := by
      rw [hp, show ((pre.length : Int)).toNat = pre.length by omega]; simp [wP]
    refine M.round (M.go rfl ?_)
    refine M.cond rfl (fun _ => ?_) (fun hc => absurd (by omega) hc)
    refine M.go rfl ?_
    refine M.use trivial S [(0, 0), (1, 1)] rfl rfl rfl (by repeat' (first | exact True.intro | refine ⟨⟨_, _, _, rfl, rfl, rfl, WkO.rfl⟩, ?_⟩ | refine HeapOK.acc rfl rfl ?_ | refine HeapOK.es rfl rfl ?_)) rfl rfl ?_
    refine M.go rfl ?_
    refine M.regD (MD.go rfl ?_)
    refine MD.op (by first | exact True.intro | exact rfl) (SOp.ia rfl rfl (by omega) hu) ?_
    refine MD.op (by first | exact True.intro | exact rfl) (SOp.ld1e rfl hu rfl rfl rfl) ?_
    refine MD.go rfl ?_
    refine MD.nil mixed (Fnl.nodup rfl) (M.go rfl ?_)
    refine M.condN rfl (fun hn => absurd hR hn) (fun _ => ?_)
    refine M.go rfl ?_
    rw [hw2]
    have hpl : (pre ++ [t]).length = pre.length + 1 := by simp
    rw [hpl] at ih' ⊢
    exact M.again (XH.ren [(0, 0), (1, 1)] ih' rfl (by repeat' (first | exact True.intro | refine ⟨⟨_, _, rfl, rfl, Wk.rfl⟩, ?_⟩ | refine ⟨⟨_, _, accV_ren rfl, rfl, Wk.rfl⟩, ?_⟩ | refine ⟨⟨_, _, accV_ren rfl, rfl, Wk.acc0⟩, ?_⟩ | refine ⟨⟨_, _, rfl, rfl, Wk.uncap⟩, ?_⟩ | refine ⟨⟨_, _, rfl, rfl, Wk.nil⟩, ?_⟩)) (by repeat' (first | exact True.intro | refine ⟨⟨_, _, _, rfl, rfl, rfl, WkO.rfl⟩, ?_⟩ | refine HeapOK.acc rfl rfl ?_ | refine HeapOK.es rfl rfl ?_)))
theorem NetOrder_spec (n : Int) (z : Bool) (T : List Int) (ct : Option Nat) (hT : T.length ≤ 100000000000000) : CallS Try.prog base 16 [.c (.p (.int .i64 n)), .c (.p (.tz z 1 (inP T) ct))] ⟨[], 0⟩ (.c (.p (.bool true))) ⟨[], 0⟩ := by
  refine CallS.of noNG lOrd.2 rfl (M.start (M.go rfl ?_))
  refine M.use0 trivial begun23_spec rfl rfl rfl ?_
  refine M.go rfl ?_
  refine M.dec rfl (fun h1 => ?_) (fun h1 => ?_)
  · refine M.go rfl ?_
    exact M.ret (M.go rfl (M.done (finQ.ret [] rfl rfl rfl (by first | exact Wk.rfl | exact Wk.uncap | exact Wk.nil | exact Wk.b1 rfl | exact Wk.t2 Wk.rfl (Wk.b1 rfl)) (by repeat' (first | exact True.intro | refine ⟨⟨_, _, _, rfl, rfl, rfl, WkO.rfl⟩, ?_⟩ | refine HeapOK.acc rfl rfl ?_ | refine HeapOK.es rfl rfl ?_)))))
  refine M.go rfl ?_
  refine M.cond rfl (fun h2 => ?_) (fun h2 => ?_)
  · refine M.go rfl ?_
    exact M.ret (M.go rfl (M.done (finQ.ret [] rfl rfl rfl (by first | exact Wk.rfl | exact Wk.uncap | exact Wk.nil | exact Wk.b1 rfl | exact Wk.t2 Wk.rfl (Wk.b1 rfl)) (by repeat' (first | exact True.intro | refine ⟨⟨_, _, _, rfl, rfl, rfl, WkO.rfl⟩, ?_⟩ | refine HeapOK.acc rfl rfl ?_ | refine HeapOK.es rfl rfl ?_)))))
  obtain ⟨N, rfl⟩ : ∃ N : Nat, n = N := ⟨n.toNat, by omega⟩
  refine M.go rfl ?_
  refine M.use trivial nnew_spec [] rfl rfl rfl trivial rfl rfl ?_
  refine M.go rfl ?_
  by_cases h0 : N = 0
  · subst h0
    refine M.loop (M.round (M.go rfl ?_))
    refine M.cond rfl (fun hn => absurd hn (by simp)) (fun _ => ?_)
    refine M.exit (M.go rfl (M.done (M.q (M.go rfl ?_))))
    refine M.loop (M.round (M.go rfl ?_))
    refine M.dec rfl (fun h3 => ?_) (fun h3 => ?_)
    · refine M.go rfl ?_
      refine M.dec rfl (fun _ => ?_) (fun hn => absurd (by decide) hn)
      refine M.go rfl ?_
      refine M.cond rfl (fun hn => absurd hn (by simp)) (fun _ => ?_)
      refine M.exit (M.go rfl (M.done (M.q (M.go rfl ?_))))
      refine M.loop (M.round (M.go rfl ?_))
      refine M.cond rfl (fun hn => absurd hn (by simp)) (fun _ => ?_)
      refine M.exit (M.go rfl (M.done (M.q (M.go rfl ?_))))
      refine M.use trivial (nlen0_spec ct0) [(0, 0)] rfl rfl rfl (by repeat' (first | exact True.intro | refine ⟨⟨_, _, _, rfl, rfl, rfl, WkO.rfl⟩, ?_⟩ | refine HeapOK.acc rfl rfl ?_ | refine HeapOK.es rfl rfl ?_)) rfl rfl ?_
      refine M.go rfl ?_
      refine M.decC (s := 4) rfl (fun _ => ?_) (fun hn => absurd hn (by simp))
      exact M.ret (M.go rfl (M.done (finQ.ret [] rfl rfl rfl (by first | exact Wk.rfl | exact Wk.uncap | exact Wk.nil | exact Wk.b1 rfl | exact Wk.t2 Wk.rfl (Wk.b1 rfl)) (by repeat' (first | exact True.intro | refine ⟨⟨_, _, _, rfl, rfl, rfl, WkO.rfl⟩, ?_⟩ | refine HeapOK.acc rfl rfl ?_ | refine HeapOK.es rfl rfl ?_)))))
    · refine M.go rfl ?_
      refine M.exit (M.go rfl (M.done (M.q (M.go rfl ?_))))
      refine M.loop (M.round (M.go rfl ?_))
      refine M.cond rfl (fun hn => absurd hn (by simp)) (fun _ => ?_)
      refine M.exit (M.go rfl (M.done (M.q (M.go rfl ?_))))
      refine M.use trivial (nlen0_spec ct0) [(0, 0)] rfl rfl rfl (by repeat' (first | exact True.intro | refine ⟨⟨_, _, _, rfl, rfl, rfl, WkO.rfl⟩, ?_⟩ | refine HeapOK.acc rfl rfl ?_ | refine HeapOK.es rfl rfl ?_)) rfl rfl ?_
      refine M.go rfl ?_
      refine M.decC (s := 4) rfl (fun _ => ?_) (fun hn => absurd hn (by simp))
      exact M.ret (M.go rfl (M.done (finQ.ret [] rfl rfl rfl (by first | exact Wk.rfl | exact Wk.uncap | exact Wk.nil | exact Wk.b1 rfl | exact Wk.t2 Wk.rfl (Wk.b1 rfl)) (by repeat' (first | exact True.intro | refine ⟨⟨_, _, _, rfl, rfl, rfl, WkO.rfl⟩, ?_⟩ | refine HeapOK.acc rfl rfl ?_ | refine HeapOK.es rfl rfl ?_)))))
  · have hs := snd_of (0 + 1) (by omega)
    have S := nsend0_spec (base := base) (nowM 1 2 ((0 + 1 : Nat) : Int)) hs.good hs.bytes hs.len ct0
    refine M.loop (M.round (M.go rfl ?_))
    refine M.cond rfl (fun _ => ?_) (fun hn => absurd (by omega) hn)
    refine M.go rfl ?_
    rw [show IntKind.i64.wrap (0 + 1) = ((0 + 1 : Nat) : Int) from rfl]
    refine M.wkO (i := 32) (v' := (nowM 1 2 ((0 + 1 : Nat) : Int)).v) rfl (Wk.of rfl) ?_
    refine M.use trivial S [(0, 0)] rfl rfl rfl (by repeat' (first | exact True.intro | refine ⟨⟨_, _, _, rfl, rfl, rfl, WkO.rfl⟩, ?_⟩ | refine HeapOK.acc rfl rfl ?_ | refine HeapOK.es rfl rfl ?_)) rfl rfl ?_
    refine M.go rfl ?_
    rw [show IntKind.i64.wrap (0 + 1) = ((0 + 1 : Nat) : Int) from rfl]
    refine M.op trivial (SOp.appN rfl rfl (.own rfl rfl) (by simp) (by simp)) ?_
    refine M.wkO (i := 38) (v' := accV 3 1 (wP (one2 (0 + 1)))) rfl (Wk.of rfl) ?_
    refine M.go rfl ?_
    rw [show IntKind.i64.wrap (0 + 1) = ((0 + 1 : Nat) : Int) from rfl]
    refine M.again (XH.ren [(0, 0), (1, 1), (2, 3)] (ord_send N (by omega) z (inP T) ct _ (fun hN1 => ?_) (N - 1) 0 (by omega)) rfl (by repeat' (first | exact True.intro | refine ⟨⟨_, _, rfl, rfl, Wk.rfl⟩, ?_⟩ | refine ⟨⟨_, _, accV_ren rfl, rfl, Wk.rfl⟩, ?_⟩ | refine ⟨⟨_, _, accV_ren rfl, rfl, Wk.acc0⟩, ?_⟩ | refine ⟨⟨_, _, rfl, rfl, Wk.uncap⟩, ?_⟩ | refine ⟨⟨_, _, rfl, rfl, Wk.nil⟩, ?_⟩)) (by repeat' (first | exact True.intro | refine ⟨⟨_, _, _, rfl, rfl, rfl, WkO.rfl⟩, ?_⟩ | refine HeapOK.acc rfl rfl ?_ | refine HeapOK.es rfl rfl ?_)))
    refine M.q (M.go rfl (M.done (M.q (M.go rfl ?_))))
    refine M.loop (XH.ren [(0, 0), (1, 1), (2, 2)] (ord_twice N (by omega) (by omega) z T ct hT _ (fun W hW hl hne => ?_) 20 0 (one2 N) (by omega) (Wok.one (by omega)) (by rw [one2_len]; rfl)) rfl (by repeat' (first | exact True.intro | refine ⟨⟨_, _, rfl, rfl, Wk.rfl⟩, ?_⟩ | refine ⟨⟨_, _, accV_ren rfl, rfl, Wk.rfl⟩, ?_⟩ | refine ⟨⟨_, _, accV_ren rfl, rfl, Wk.acc0⟩, ?_⟩ | refine ⟨⟨_, _, rfl, rfl, Wk.uncap⟩, ?_⟩ | refine ⟨⟨_, _, rfl, rfl, Wk.nil⟩, ?_⟩)) (by repeat' (first | exact True.intro | refine ⟨⟨_, _, _, rfl, rfl, rfl, WkO.rfl⟩, ?_⟩ | refine HeapOK.acc rfl rfl ?_ | refine HeapOK.es rfl rfl ?_)))
    refine M.q (M.goN 2 rfl ?_)
    refine M.accF (i := 7) rfl rfl ?_
    refine M.ren [(0, 0), (1, 1)] ?_ trivial rfl (by repeat' (first | exact True.intro | refine ⟨⟨_, _, rfl, rfl, Wk.rfl⟩, ?_⟩ | refine ⟨⟨_, _, accV_ren rfl, rfl, Wk.rfl⟩, ?_⟩ | refine ⟨⟨_, _, accV_ren rfl, rfl, Wk.acc0⟩, ?_⟩ | refine ⟨⟨_, _, rfl, rfl, Wk.uncap⟩, ?_⟩ | refine ⟨⟨_, _, rfl, rfl, Wk.nil⟩, ?_⟩)) (by repeat' (first | exact True.intro | refine ⟨⟨_, _, _, rfl, rfl, rfl, WkO.rfl⟩, ?_⟩ | refine HeapOK.acc rfl rfl ?_ | refine HeapOK.es rfl rfl ?_)) (e' := [(6, .c (.ptr 0 0)), (7, .c (.p (.tz true 1 (wP W) none)))]) (h' := hN 1 (pks W) 0 ct0)
    refine M.go rfl ?_
    refine M.loop (XH.ren [(0, 0), (1, 1)] (ord_take W hW.le hl _ ?_ W [] rfl) rfl (by repeat' (first | exact True.intro | refine ⟨⟨_, _, rfl, rfl, Wk.rfl⟩, ?_⟩ | refine ⟨⟨_, _, accV_ren rfl, rfl, Wk.rfl⟩, ?_⟩ | refine ⟨⟨_, _, accV_ren rfl, rfl, Wk.acc0⟩, ?_⟩ | refine ⟨⟨_, _, rfl, rfl, Wk.uncap⟩, ?_⟩ | refine ⟨⟨_, _, rfl, rfl, Wk.nil⟩, ?_⟩)) (by repeat' (first | exact True.intro | refine ⟨⟨_, _, _, rfl, rfl, rfl, WkO.rfl⟩, ?_⟩ | refine HeapOK.acc rfl rfl ?_ | refine HeapOK.es rfl rfl ?_)))
    refine M.q (M.go rfl ?_)
    refine M.use trivial (nlen_spec (pks []) W.length ct0) [(0, 0), (1, 1)] rfl rfl rfl (by repeat' (first | exact True.intro | refine ⟨⟨_, _, _, rfl, rfl, rfl, WkO.rfl⟩, ?_⟩ | refine HeapOK.acc rfl rfl ?_ | refine HeapOK.es rfl rfl ?_)) rfl rfl ?_
    refine M.go rfl ?_
    refine M.decC (s := 4) rfl (fun _ => ?_) (fun hn => absurd hn (by simp [pks]))
    exact M.ret (M.go rfl (M.done (finQ.ret [] rfl rfl rfl (by first | exact Wk.rfl | exact Wk.uncap | exact Wk.nil | exact Wk.b1 rfl | exact Wk.t2 Wk.rfl (Wk.b1 rfl)) (by repeat' (first | exact True.intro | refine ⟨⟨_, _, _, rfl, rfl, rfl, WkO.rfl⟩, ?_⟩ | refine HeapOK.acc rfl rfl ?_ | refine HeapOK.es rfl rfl ?_)))))
theorem NetOrder_law {p0 p1 : PC} (h0 : Is (.int .i64) p0) (h1 : Is (.sl 1 8 (.int .i64)) p1) : CallS Try.prog base 16 [xvP p0, xvP p1] ⟨[], 0⟩ (.c (.p (.bool true))) ⟨[], 0⟩ := by
  obtain ⟨n, rfl, -⟩ := h0.i64
  obtain ⟨z, T, rfl, hT, -⟩ := h1.ints
  exact NetOrder_spec n z T none (by omega)
end Go.Proofs.Yteegdhfekemhmaa
