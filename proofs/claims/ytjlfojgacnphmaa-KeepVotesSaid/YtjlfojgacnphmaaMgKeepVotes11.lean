/- Texts of this claim, several in one: OpenP. -/
import Derived.Test.YtjlfojgacnphmaaMgKeepVotes10
import Derived.WideShapes
namespace Go.Proofs.Ytjlfojgacnphmaa
open Go.RowKit Sim Go Sym Go.Deep
set_option linter.unusedVariables false
set_option linter.unusedSimpArgs false
inductive Ty where
  | bool
  | int (k : IntKind)
  | str
  | sl (s b : Nat) (e : Ty)
  | st (fs : List Ty)
def tysOf (f : TypeId → Option Ty) : List Field → Option (List Ty)
  | [] => some []
  | x :: l => match f x.type, tysOf f l with
    | some T, some r => some (T :: r)
    | _, _ => none
def offs (P : Program) : Nat → List Field → Option Nat
  | o, [] => some o
  | o, x :: l => if x.offset = o then offs P (o + P.cellsOf x.type) l else none
def tyOf (P : Program) : Nat → TypeId → Option Ty
  | 0, _ => none
  | n + 1, t => match P.underlying t with
    | some .bool => some .bool
    | some (.int k) => some (.int k)
    | some .string => some .str
    | some (.slice e) => match tyOf P n e with
      | some T => if 0 < P.cellsOf e ∧ 0 < P.bytesOf e then some (.sl (P.cellsOf e) (P.bytesOf e) T) else none
      | none => none
    | some (.struct fs) => match tysOf (tyOf P n) fs.toList with
      | some Ts => if offs P 0 fs.toList = some (P.cellsOf t) then some (.st Ts) else none
      | none => none
    | _ => none
mutual
def Is : Ty → PC → Prop
  | .bool, p => ∃ b, p = .bs b
  | .int k, p => ∃ n, p = .int k n ∧ k.min ≤ n ∧ n ≤ k.max
  | .str, p => ∃ l, p = .str l ∧ l.length ≤ 140737488351232 ∧ ∀ b ∈ l, b < 256
  | .sl s b e, p => ∃ z el, p = .tz z s el none ∧ el.length * b ≤ 140737488351232 ∧ ∀ x ∈ el, Is e x
  | .st fs, p => ∃ l, p = .agg l ∧ IsL fs l
def IsL : List Ty → List PC → Prop
  | [], l => l = []
  | T :: Ts, l => ∃ p r, Is T p ∧ l = p.cells ++ r ∧ IsL Ts r
end
theorem Is.sl {s b : Nat} {e : Ty} {p : PC} (h : Is (.sl s b e) p) : ∃ z el, p = .tz z s el none ∧ el.length * b ≤ 140737488351232 ∧ ∀ x ∈ el, Is e x := by simpa only [Is] using h
theorem Is.int {k : IntKind} {p : PC} (h : Is (.int k) p) : ∃ n, p = .int k n ∧ k.min ≤ n ∧ n ≤ k.max := by simpa only [Is] using h
theorem Is.bool {p : PC} (h : Is .bool p) : ∃ b, p = .bs b := by simpa only [Is] using h
theorem Is.str {p : PC} (h : Is .str p) : ∃ l, p = .str l ∧ l.length ≤ 140737488351232 ∧ ∀ b ∈ l, b < 256 := by simpa only [Is] using h
theorem Is.st {fs : List Ty} {p : PC} (h : Is (.st fs) p) : ∃ l, p = .agg l ∧ IsL fs l := by simpa only [Is] using h
theorem IsL.nil {l : List PC} (h : IsL [] l) : l = [] := by simpa only [IsL] using h
theorem IsL.cons {T : Ty} {Ts : List Ty} {l : List PC} (h : IsL (T :: Ts) l) : ∃ p r, Is T p ∧ l = p.cells ++ r ∧ IsL Ts r := by simpa only [IsL] using h
theorem i64_rng {n : Int} (h : IntKind.i64.min ≤ n ∧ n ≤ IntKind.i64.max) : -9223372036854775808 ≤ n ∧ n ≤ 9223372036854775807 := by
  have h1 : IntKind.i64.min = -9223372036854775808 := by decide
  have h2 : IntKind.i64.max = 9223372036854775807 := by decide
  omega
theorem u8_rng {n : Int} (h : IntKind.u8.min ≤ n ∧ n ≤ IntKind.u8.max) : 0 ≤ n ∧ n < 256 := by
  have h1 : IntKind.u8.min = 0 := by decide
  have h2 : IntKind.u8.max = 255 := by decide
  omega
theorem Is.i64 {p : PC} (h : Is (.int .i64) p) : ∃ n, p = .int .i64 n ∧ -9223372036854775808 ≤ n ∧ n ≤ 9223372036854775807 := by
  obtain ⟨n, h1, h2⟩ := h.int
  exact ⟨n, h1, i64_rng h2⟩
theorem lift {α : Type} {T : Ty} {f : α → PC} {ok : α → Prop} (h : ∀ p, Is T p → ∃ a, p = f a ∧ ok a) : ∀ {el : List PC}, (∀ x ∈ el, Is T x) → ∃ l : List α, el = l.map f ∧ ∀ a ∈ l, ok a
  | [], _ => ⟨[], rfl, (fun a ha => by cases ha)⟩
  | x :: el, hx => by
    obtain ⟨a, rfl, ha⟩ := h x (hx x (by simp))
    have hx' : ∀ y ∈ el, Is T y := fun y hy => hx y (List.mem_cons_of_mem _ hy)
    obtain ⟨l, rfl, hl⟩ := lift h hx'
    exact ⟨a :: l, rfl, fun b hb => by
      rcases List.mem_cons.1 hb with rfl | hb
      · exact ha
      · exact hl b hb⟩
theorem Is.bytes {p : PC} (h : Is (.sl 1 1 (.int .u8)) p) : ∃ z l, p = .tz z 1 (byP l) none ∧ l.length ≤ 140737488351232 ∧ ∀ b ∈ l, b < 256 := by
  obtain ⟨z, el, rfl, h1, h2⟩ := h.sl
  obtain ⟨l, rfl, h3⟩ := lift (f := fun (b : Nat) => PC.int .u8 b) (ok := fun b => b < 256) (fun p hp => by
    obtain ⟨n, rfl, hn⟩ := hp.int
    have := u8_rng hn
    exact ⟨n.toNat, by rw [show ((n.toNat : Nat) : Int) = n by omega], by omega⟩) h2
  exact ⟨z, l, rfl, by simpa using h1, h3⟩
theorem Is.ints {p : PC} (h : Is (.sl 1 8 (.int .i64)) p) : ∃ z l, p = .tz z 1 (inP l) none ∧ l.length ≤ 17592186043904 ∧ ∀ i ∈ l, -9223372036854775808 ≤ i ∧ i ≤ 9223372036854775807 := by
  obtain ⟨z, el, rfl, h1, h2⟩ := h.sl
  obtain ⟨l, rfl, h3⟩ := lift (f := fun (i : Int) => PC.int .i64 i) (ok := fun i => -9223372036854775808 ≤ i ∧ i ≤ 9223372036854775807) (fun p hp => by
    obtain ⟨n, rfl, hn⟩ := hp.i64
    exact ⟨n, rfl, hn⟩) h2
  exact ⟨z, l, rfl, by simp at h1; omega, h3⟩
section
variable {H : Type} {enc : TypeId × Value → H} {P : Program} {w : World} {base : Nat} {held : Bool}
theorem flatE_all2 {φ : Ph} {s : Nat} : ∀ {el : List PC} {css : List (List Value)}, (∀ p ∈ el, p.cells.all PC.one = true) → (∀ c ∈ css, c.length = s) → All2 (fun (p : PC) c => All2 (CR φ) (p.cells.map PC.sc) c) el css → All2 (CR φ) (flatE s el) css.flatten
  | [], [], _, _, _ => by simp [flatE, All2]
  | p :: el, c :: css, h1, h2, h => by
    have hc := h2 c (by simp)
    have hl := h.1.length
    rw [List.flatten_cons, flatE, PC.flat_cells (h1 p (by simp)), fit_eq (by simpa [hc] using hl)]
    exact All2.app h.1 (flatE_all2 (fun q hq => h1 q (by simp [hq])) (fun q hq => h2 q (by simp [hq])) h.2)
theorem All2.all_exists {α β : Type} {R : α → β → Prop} : ∀ {y : List β}, (∀ b ∈ y, ∃ a, R a b) → ∃ x, All2 R x y
  | [], _ => ⟨[], trivial⟩
  | b :: y, h => by
    obtain ⟨a, ha⟩ := h b (by simp)
    obtain ⟨x, hx⟩ := All2.all_exists (y := y) fun c hc => h c (by simp [hc])
    exact ⟨a :: x, ha, hx⟩
theorem All2.left {α β : Type} {R : α → β → Prop} {S : α → Prop} : ∀ {x : List α} {y : List β}, All2 (fun a b => S a ∧ R a b) x y → (∀ a ∈ x, S a) ∧ All2 R x y
  | [], [], _ => ⟨(fun a h => by cases h), trivial⟩
  | a :: x, b :: y, h => by
    obtain ⟨h1, h2⟩ := All2.left h.2
    exact ⟨fun c hc => by
      rcases List.mem_cons.1 hc with rfl | hc
      · exact h.1.1
      · exact h1 c hc, h.1.2, h2⟩
theorem openP_fields {n : Nat} {cs : List Value} {m : Nat}
    (ih : ∀ {t : TypeId} {T : Ty}, tyOf P n t = some T → ∀ {fuel : Nat} {cs : List Value} {x : DataW H × List MemPlace}, DataW.trod enc P w base (fun _ => true) held fuel t cs = some x → (∀ k ∈ x.1.weights P t, k ≤ reachBytes) → ∃ p, (Is T p ∧ p.cells.all PC.one = true) ∧ All2 (CR (startP w)) (p.cells.map PC.sc) cs) :
    ∀ (fs : List Field) (Ts : List Ty) (o : Nat), tysOf (tyOf P n) fs = some Ts → offs P o fs = some cs.length →
      (∀ f ∈ fs, ∃ (m : Nat) (y : DataW H × List MemPlace), DataW.trod enc P w base (fun _ => true) held m f.type ((cs.drop f.offset).take (P.cellsOf f.type)) = some y ∧ ∀ k ∈ y.1.weights P f.type, k ≤ reachBytes) →
      ∃ l, (IsL Ts l ∧ l.all PC.one = true) ∧ All2 (CR (startP w)) (l.map PC.sc) (cs.drop o)
  | [], Ts, o, h1, h2, _ => by
    simp only [tysOf, Option.some.injEq] at h1
    subst h1
    simp only [offs, Option.some.injEq] at h2
    subst h2
    exact ⟨[], ⟨by simp only [IsL], rfl⟩, by simp [All2]⟩
  | f :: fs, Ts, o, h1, h2, h3 => by
    simp only [tysOf] at h1
    split at h1
    · rename_i T r hT hr
      simp only [Option.some.injEq] at h1
      subst h1
      simp only [offs] at h2
      split at h2
      · rename_i ho
        obtain ⟨m, y, g1, g2⟩ := h3 f (by simp)
        obtain ⟨p, ⟨q1, q2⟩, q3⟩ := ih hT g1 g2
        obtain ⟨l, ⟨r1, r2⟩, r3⟩ := openP_fields (m := m) ih fs r _ hr h2 (fun f' hf' => h3 f' (by simp [hf']))
        refine ⟨p.cells ++ l, ⟨by simp only [IsL]; exact ⟨p, l, q1, rfl, r1⟩, by simp [List.all_append, q2, r2]⟩, ?_⟩
        rw [List.map_append, ← List.take_append_drop (P.cellsOf f.type) (cs.drop o), List.drop_drop]
        rw [ho] at q3
        exact All2.app q3 r3
      · cases h2
    · cases h1
theorem openP_cells : ∀ (n : Nat) {t : TypeId} {T : Ty}, tyOf P n t = some T → ∀ {fuel : Nat} {cs : List Value} {x : DataW H × List MemPlace}, DataW.trod enc P w base (fun _ => true) held fuel t cs = some x → (∀ k ∈ x.1.weights P t, k ≤ reachBytes) → ∃ p, (Is T p ∧ p.cells.all PC.one = true) ∧ All2 (CR (startP w)) (p.cells.map PC.sc) cs
  | 0, t, T, h, _, _, _, _, _ => by simp [tyOf] at h
  | n + 1, t, T, h, fuel, cs, x, hx, hw => by
    simp only [tyOf] at h
    split at h
    · rename_i hu
      simp only [Option.some.injEq] at h; subst h
      obtain ⟨b, rfl, _⟩ := DataW.trod_bool hu hx
      exact ⟨.bs b, ⟨by simp [Is], rfl⟩, by simp [All2, PC.cells, PC.sc, CR]⟩
    · rename_i k hu
      simp only [Option.some.injEq] at h; subst h
      obtain ⟨q, rfl, _, hq⟩ := DataW.trod_int hu hx
      simp only [Lit.wf, Bool.and_eq_true, decide_eq_true_eq] at hq
      exact ⟨.int k q, ⟨by simp [Is, hq], rfl⟩, by simp [All2, PC.cells, PC.sc, CR]⟩
    · rename_i hu
      simp only [Option.some.injEq] at h; subst h
      obtain ⟨s, rfl, rfl, hsz⟩ := DataW.trod_string hu hx
      refine ⟨.str (s.data.toList.map UInt8.toNat), ⟨?_, rfl⟩, ?_⟩
      · simp only [Is]
        refine ⟨_, rfl, ?_, fun b hb => ?_⟩
        · have := hw s.data.toList.length (by simp [DataW.weights])
          simpa [reachBytes] using this
        · obtain ⟨y, _, rfl⟩ := List.mem_map.1 hb
          exact y.toNat_lt
      · refine ⟨?_, trivial⟩
        simp only [PC.sc, CR]
        exact ⟨s, rfl, rfl⟩
    · rename_i e hu
      split at h
      · rename_i T' hT
        split at h
        · rename_i hpos
          simp only [Option.some.injEq] at h; subst h
          obtain ⟨v, rfl⟩ : ∃ v, cs = [v] := by
            rcases open_slice hu hx with ⟨h0, _⟩ | ⟨a, len, cap, _, _, _, _, h0, _⟩
            · exact ⟨_, h0⟩
            · exact ⟨_, h0⟩
          obtain ⟨css, hr, hb, hel⟩ := openL_slice hu rfl hpos.1 hpos.2 hx hw
          obtain ⟨el, hall⟩ := All2.all_exists (R := fun (p : PC) c => (Is T' p ∧ p.cells.all PC.one = true) ∧ All2 (CR (startP w)) (p.cells.map PC.sc) c) (y := css) (fun c hc => by
            obtain ⟨_, m, y, g1, g2⟩ := hel c hc
            exact openP_cells n hT g1 g2)
          obtain ⟨a1, a2⟩ := All2.left hall
          have hlen := a2.length
          have hfl := flatE_all2 (fun p hp => (a1 p hp).2) (fun c hc => (hel c hc).1) a2
          obtain ⟨z, hz⟩ := Rd.tz hr hlen (fun j x hx => hfl.get hx)
          refine ⟨.tz z (P.cellsOf e) el none, ⟨?_, rfl⟩, hz, trivial⟩
          simp only [Is]
          exact ⟨z, el, rfl, by rw [hlen]; exact hb, fun x hx => (a1 x hx).1⟩
        · cases h
      · cases h
    · rename_i fs hu
      split at h
      · rename_i Ts hT
        split at h
        · rename_i ho
          simp only [Option.some.injEq] at h; subst h
          obtain ⟨hl, hf⟩ := openL_struct hu hx hw
          obtain ⟨l, ⟨r1, r2⟩, r3⟩ := openP_fields (m := 0) (fun {t} {T} h => @openP_cells n t T h) fs.toList Ts 0 hT (by rw [hl]; exact ho) (fun f hf' => by
            obtain ⟨i, hi⟩ := List.getElem?_of_mem hf'
            rw [Array.getElem?_toList] at hi
            exact hf i f hi)
          rw [List.drop_zero] at r3
          exact ⟨.agg l, ⟨by simp only [Is]; exact ⟨l, rfl, r1⟩, r2⟩, r3⟩
        · cases h
      · cases h
    · cases h
def xvP : PC → XV
  | .agg l => .agg (l.map XC.p)
  | x => .c (.p x)
theorem openP {n : Nat} {t : TypeId} {T : Ty} (hT : tyOf P n t = some T) {b0 : Nat} {v : Value} {d : DataW H} {ps : List MemPlace} (hval : Value.okWide P w .any b0 t v) (h : DataW.Trod enc P w base (fun _ => true) held t v d ps) (hw : ∀ n ∈ d.weights P t, n ≤ reachBytes) : ∃ p, Is T p ∧ VR (startP w) (xvP p).sv v := by
  obtain ⟨fuel, hf⟩ := h
  obtain ⟨p, ⟨h1, h2⟩, h3⟩ := openP_cells n hT hf hw
  refine ⟨p, h1, ?_⟩
  cases n with
  | zero => simp [tyOf] at hT
  | succ n =>
    simp only [tyOf] at hT
    split at hT
    · rename_i hu
      simp only [Option.some.injEq] at hT; subst hT
      obtain ⟨b, rfl⟩ := h1.bool
      obtain ⟨b', rfl⟩ : ∃ b', v = .bool b' := by
        simp only [Value.okWide, hu, Cell.okWide] at hval
        cases v <;> simp_all [Cell.ok]
      exact h3.1
    · rename_i k hu
      simp only [Option.some.injEq] at hT; subst hT
      obtain ⟨q, rfl, _⟩ := h1.int
      obtain ⟨m, rfl⟩ := WideShapes.okWide_int hu hval
      exact h3.1
    · rename_i hu
      simp only [Option.some.injEq] at hT; subst hT
      obtain ⟨q, rfl, _⟩ := h1.str
      obtain ⟨m, rfl⟩ := WideShapes.okWide_string hu hval
      exact h3.1
    · rename_i e hu
      split at hT
      · split at hT
        · simp only [Option.some.injEq] at hT; subst hT
          obtain ⟨z, el, rfl, _⟩ := h1.sl
          obtain ⟨a, l, c, rfl⟩ := WideShapes.okWide_slice hu hval
          exact h3.1
        · cases hT
      · cases hT
    · rename_i fs hu
      split at hT
      · split at hT
        · simp only [Option.some.injEq] at hT; subst hT
          obtain ⟨l, rfl, _⟩ := h1.st
          obtain ⟨cs, rfl, hcs⟩ := WideShapes.okWide_struct hu hval
          refine ⟨cs, rfl, ?_⟩
          simpa [PC.cells, Function.comp_def, XC.sc, Value.cells] using h3
        · cases hT
      · cases hT
    · cases hT
end
end Go.Proofs.Ytjlfojgacnphmaa
