/- The plain machine beside the model's: when a value and a memory of the one go with those of the other. No program in sight. -/
import Derived.Test.YtgaaffanoegbhaaSimD
import Derived.Test.YtgaaffanoegbhaaOwn
namespace Go.Proofs.Ytgaaffanoegbhaa.Sim
open Go
set_option linter.unusedSimpArgs false
set_option linter.unusedVariables false

namespace T
variable {α : Type}
@[simp] theorem get_e (j : Nat) : (T.e : T α).get j = none := by simp [get]
theorem get_putF (x : Option α) : ∀ (f : Nat) (t : T α) (k j : Nat), k < f → (putF f t k x).get j = if j = k then x else t.get j
  | 0, _, _, _, h => by omega
  | f + 1, t, k, j, h => by
    cases t with
    | e =>
      simp only [putF]
      by_cases h0 : k = 0
      · subst h0
        by_cases hj : j = 0
        · simp [get, hj]
        · simp [get, hj]
      · rw [if_neg h0]
        by_cases h1 : k % 2 = 1
        · rw [if_pos h1]
          have ih := get_putF x f .e (k / 2) (j / 2) (by omega)
          by_cases hj : j = 0
          · simp [get, hj, show ¬ (0 = k) by omega]
          · by_cases hj1 : j % 2 = 1
            · simp only [get, if_neg hj, if_pos hj1, ih, get_e]
              by_cases hjk : j = k
              · subst hjk; simp
              · simp [hjk, show ¬ (j / 2 = k / 2) by omega]
            · simp [get, hj, hj1, show ¬ (j = k) by omega]
        · rw [if_neg h1]
          have ih := get_putF x f .e (k / 2 - 1) (j / 2 - 1) (by omega)
          by_cases hj : j = 0
          · simp [get, hj, show ¬ (0 = k) by omega]
          · by_cases hj1 : j % 2 = 1
            · simp [get, hj, hj1, show ¬ (j = k) by omega]
            · simp only [get, if_neg hj, if_neg hj1, ih, get_e]
              by_cases hjk : j = k
              · subst hjk; simp
              · simp [hjk, show ¬ (j / 2 - 1 = k / 2 - 1) by omega]
    | n v l r =>
      simp only [putF]
      by_cases h0 : k = 0
      · subst h0
        by_cases hj : j = 0
        · simp [get, hj]
        · simp [get, hj]
      · rw [if_neg h0]
        by_cases h1 : k % 2 = 1
        · rw [if_pos h1]
          have ih := get_putF x f l (k / 2) (j / 2) (by omega)
          by_cases hj : j = 0
          · simp [get, hj, show ¬ (0 = k) by omega]
          · by_cases hj1 : j % 2 = 1
            · simp only [get, if_neg hj, if_pos hj1, ih]
              by_cases hjk : j = k
              · subst hjk; simp
              · simp [hjk, show ¬ (j / 2 = k / 2) by omega]
            · simp [get, hj, hj1, show ¬ (j = k) by omega]
        · rw [if_neg h1]
          have ih := get_putF x f r (k / 2 - 1) (j / 2 - 1) (by omega)
          by_cases hj : j = 0
          · simp [get, hj, show ¬ (0 = k) by omega]
          · by_cases hj1 : j % 2 = 1
            · simp [get, hj, hj1, show ¬ (j = k) by omega]
            · simp only [get, if_neg hj, if_neg hj1, ih]
              by_cases hjk : j = k
              · subst hjk; simp
              · simp [hjk, show ¬ (j / 2 - 1 = k / 2 - 1) by omega]
theorem get_put (t : T α) (k j : Nat) (x : Option α) : (t.put k x).get j = if j = k then x else t.get j := get_putF x (k + 1) t k j (Nat.lt_succ_self k)
end T
theorem SH.get_put (h : SH) (b j : Nat) (o : Option SO) : (h.put b o).get j = if j = b then o else h.get j := T.get_put _ _ _ _
theorem SH.get_new (h : SH) (cs : List SC) (j : Nat) : (h.new cs).get j = if j = h.next then some (.row cs true) else h.get j := T.get_put _ _ _ _
theorem SH.get_newO (h : SH) (o : SO) (j : Nat) : (h.newO o).get j = if j = h.next then some o else h.get j := T.get_put _ _ _ _
@[simp] theorem SH.next_newO (h : SH) (o : SO) : (h.newO o).next = h.next + 1 := rfl
@[simp] theorem SH.next_put (h : SH) (b : Nat) (o : Option SO) : (h.put b o).next = h.next := rfl
@[simp] theorem SH.next_new (h : SH) (cs : List SC) : (h.new cs).next = h.next + 1 := rfl
@[simp] theorem SF.n_put (t : SF) (d : Option Nat) (v : SV) : (t.put d v).n = t.n := by
  unfold SF.put; split
  · split <;> rfl
  · rfl
theorem SF.get_put (t : SF) (d j : Nat) (v : SV) : (t.put (some d) v).get j = if j = d ∧ d < t.n then some v else t.get j := by
  unfold SF.put SF.get
  by_cases h : d < t.n
  · simp only [h, if_true, T.get_put, and_true]
  · simp [h]

/-- Two lists go together. -/
def All2 {α β : Type} (R : α → β → Prop) : List α → List β → Prop
  | [], [] => True
  | a :: x, b :: y => R a b ∧ All2 R x y
  | _, _ => False
theorem All2.length {α β : Type} {R : α → β → Prop} : ∀ {x : List α} {y : List β}, All2 R x y → x.length = y.length
  | [], [], _ => rfl
  | _ :: _, _ :: _, h => by simp [h.2.length]
theorem All2.get {α β : Type} {R : α → β → Prop} : ∀ {x : List α} {y : List β}, All2 R x y → ∀ {i : Nat} {a : α}, x[i]? = some a → ∃ b, y[i]? = some b ∧ R a b
  | [], [], _, i, a, h => by simp at h
  | a :: x, b :: y, h, 0, c, hc => by simp at hc; subst hc; exact ⟨b, rfl, h.1⟩
  | a :: x, b :: y, h, i + 1, c, hc => by simpa using h.2.get (by simpa using hc)
theorem All2.mk {α β : Type} {R : α → β → Prop} : ∀ {x : List α} {y : List β}, x.length = y.length → (∀ (i : Nat) (a : α) (b : β), x[i]? = some a → y[i]? = some b → R a b) → All2 R x y
  | [], [], _, _ => trivial
  | [], _ :: _, h, _ => by simp at h
  | _ :: _, [], h, _ => by simp at h
  | a :: x, b :: y, h, k => ⟨k 0 a b rfl rfl, All2.mk (by simpa using h) fun i c d hc hd => k (i + 1) c d (by simpa using hc) (by simpa using hd)⟩
theorem All2.mono {α β : Type} {R S : α → β → Prop} : ∀ {x : List α} {y : List β}, All2 R x y → (∀ a b, R a b → S a b) → All2 S x y
  | [], [], _, _ => trivial
  | _ :: _, _ :: _, h, k => ⟨k _ _ h.1, h.2.mono k⟩
theorem All2.app {α β : Type} {R : α → β → Prop} : ∀ {x : List α} {y : List β} {x' : List α} {y' : List β}, All2 R x y → All2 R x' y' → All2 R (x ++ x') (y ++ y')
  | [], [], _, _, _, h => h
  | _ :: _, _ :: _, _, _, h, k => ⟨h.1, h.2.app k⟩
theorem All2.take {α β : Type} {R : α → β → Prop} : ∀ {x : List α} {y : List β}, All2 R x y → ∀ n, All2 R (x.take n) (y.take n)
  | [], [], _, n => by simp; trivial
  | _ :: _, _ :: _, h, 0 => by simp; trivial
  | _ :: _, _ :: _, h, n + 1 => ⟨h.1, h.2.take n⟩
theorem All2.drop {α β : Type} {R : α → β → Prop} : ∀ {x : List α} {y : List β}, All2 R x y → ∀ n, All2 R (x.drop n) (y.drop n)
  | [], [], _, n => by simp; trivial
  | a :: x, b :: y, h, 0 => h
  | _ :: _, _ :: _, h, n + 1 => h.2.drop n

/-- Where a plain block lies: the model's block, the offset in it, that block's size, how many cells the plain one has. -/
structure Loc where
  m : Nat
  m0 : Nat
  sz : Nat
  len : Nat
/-- Where the plain blocks lie; what the frozen blocks hold. -/
structure Ph where
  f : Nat → Option Loc
  fm : Nat → Option Obj
instance : CoeFun Ph (fun _ => Nat → Option Loc) := ⟨Ph.f⟩
def Ph.cell (φ : Ph) (a : Addr) : Option Value :=
  match φ.fm a.block with
  | some (.cells c _ _) => if a.spot.isSome then none else c[a.off]?
  | _ => none

mutual
/-- A cell's content. -/
def CR (φ : Ph) : SC → Value → Prop
  | .bool b, v => v = .bool b
  | .int k n, v => v = .int k n
  | .str l, v => ∃ s : ByteArray, v = .string s ∧ s.data.toList.map UInt8.toNat = l
  | .nilp, v => v = .pointer none
  | .ptr b o, v => ∃ L, φ b = some L ∧ v = .pointer (some ⟨L.m, L.m0 + o, none⟩)
  | .nils, v => v = .slice none 0 0
  | .em, v => ∃ a c, v = .slice (some a) 0 c ∧ c ≤ maxLen
  | .sl b o n s c, v => ∃ L a cap, φ b = some L ∧ v = .slice (some a) n cap ∧ (0 < cap → a = ⟨L.m, L.m0 + o, none⟩) ∧ n ≤ cap ∧ cap ≤ maxLen ∧ L.m0 + o + cap * s ≤ L.sz ∧
      (match c with | some c => c = cap | none => L.len ≤ o + cap * s)
  | .mp none, v => v = .map none
  | .mp (some b), v => ∃ L, φ b = some L ∧ v = .map (some L.m)
  | .fz n s l c, v => l.length = n * s ∧ ∃ a cap, v = .slice (some a) n cap ∧ n ≤ cap ∧ cap ≤ maxLen ∧ (∀ c', c = some c' → c' = cap) ∧ CRs φ a 0 l
  | .fp l o, v => ∃ a, v = .pointer (some (a.add o)) ∧ CRs φ a 0 l
  | .cl f x y, v => ∃ a b : Array Value, v = .func (.func f) a b ∧ CRl φ x a.toList ∧ CRl φ y b.toList
  | .ifc t x, v => ∃ u, v = .iface t u ∧ CR φ x u
/-- One by one. -/
def CRl (φ : Ph) : List SC → List Value → Prop
  | [], l => l = []
  | x :: l, r => ∃ u r', r = u :: r' ∧ CR φ x u ∧ CRl φ l r'
/-- The cells from an address on, all frozen. -/
def CRs (φ : Ph) (a : Addr) : Nat → List SC → Prop
  | _, [] => True
  | i, x :: l => (∃ u, φ.cell (a.add i) = some u ∧ CR φ x u) ∧ CRs φ a (i + 1) l
end
theorem CRl.all2 {φ : Ph} : ∀ {l : List SC} {r : List Value}, CRl φ l r → All2 (CR φ) l r
  | [], r, h => by simp only [CRl] at h; subst h; trivial
  | x :: l, r, h => by
    simp only [CRl] at h
    obtain ⟨u, r', rfl, h1, h2⟩ := h
    exact ⟨h1, CRl.all2 h2⟩
theorem CRl.of {φ : Ph} : ∀ {l : List SC} {r : List Value}, All2 (CR φ) l r → CRl φ l r
  | [], [], _ => by simp only [CRl]
  | x :: l, u :: r, h => by
    simp only [CRl]
    exact ⟨u, r, rfl, h.1, CRl.of h.2⟩
theorem CRs.get {φ : Ph} {a : Addr} : ∀ {l : List SC} {i : Nat}, CRs φ a i l → ∀ {j : Nat} {x : SC}, l[j]? = some x → ∃ u, φ.cell (a.add (i + j)) = some u ∧ CR φ x u
  | [], i, _, j, x, h => by simp at h
  | y :: l, i, h, 0, x, hx => by
    simp only [List.getElem?_cons_zero, Option.some.injEq] at hx
    subst hx
    simp only [CRs] at h
    exact h.1
  | y :: l, i, h, j + 1, x, hx => by
    simp only [List.getElem?_cons_succ] at hx
    simp only [CRs] at h
    have := CRs.get h.2 hx
    rwa [show i + 1 + j = i + (j + 1) by omega] at this
theorem CRs.mk {φ : Ph} {a : Addr} : ∀ {l : List SC} {i : Nat}, (∀ (j : Nat) (x : SC), l[j]? = some x → ∃ u, φ.cell (a.add (i + j)) = some u ∧ CR φ x u) → CRs φ a i l
  | [], i, _ => by simp [CRs]
  | y :: l, i, h => by
    simp only [CRs]
    exact ⟨h 0 y rfl, CRs.mk fun j x hx => by
      have := h (j + 1) x (by simpa using hx)
      rwa [show i + (j + 1) = i + 1 + j by omega] at this⟩
/-- One value that is no tuple. -/
def VR1 (φ : Ph) : SV → Value → Prop
  | .c x, v => CR φ x v
  | .agg l, v => ∃ cs : Array Value, v = .agg cs ∧ All2 (CR φ) l cs.toList
  | .tup _, _ => False
def VR (φ : Ph) : SV → Value → Prop
  | .tup l, v => ∃ vs : Array Value, v = .tuple vs ∧ All2 (VR1 φ) l vs.toList
  | x, v => VR1 φ x v
structure Le (φ ψ : Ph) : Prop where
  f : ∀ b L, φ b = some L → ψ b = some L
  fm : ∀ m o, φ.fm m = some o → ψ.fm m = some o
theorem Le.refl (φ : Ph) : Le φ φ := ⟨fun _ _ h => h, fun _ _ h => h⟩
theorem Le.trans {φ ψ χ : Ph} (h : Le φ ψ) (k : Le ψ χ) : Le φ χ := ⟨fun b L hb => k.f b L (h.f b L hb), fun m o hm => k.fm m o (h.fm m o hm)⟩
theorem Le.cell {φ ψ : Ph} (h : Le φ ψ) {a : Addr} {u : Value} (hu : φ.cell a = some u) : ψ.cell a = some u := by
  unfold Ph.cell at hu ⊢
  cases hm : φ.fm a.block with
  | none => simp [hm] at hu
  | some o => rw [h.fm _ _ hm]; rw [hm] at hu; exact hu
mutual
theorem CR.mono {φ ψ : Ph} (h : Le φ ψ) : ∀ {x : SC} {v : Value}, CR φ x v → CR ψ x v
  | .bool _, _, r => by simpa only [CR] using r
  | .int _ _, _, r => by simpa only [CR] using r
  | .str _, _, r => by simpa only [CR] using r
  | .nilp, _, r => by simpa only [CR] using r
  | .ptr _ _, _, r => by simp only [CR] at r ⊢; obtain ⟨L, h1, h2⟩ := r; exact ⟨L, h.f _ _ h1, h2⟩
  | .nils, _, r => by simpa only [CR] using r
  | .em, _, r => by simpa only [CR] using r
  | .sl _ _ _ _ _, _, r => by simp only [CR] at r ⊢; obtain ⟨L, a, cap, h1, h2⟩ := r; exact ⟨L, a, cap, h.f _ _ h1, h2⟩
  | .mp none, _, r => by simpa only [CR] using r
  | .mp (some _), _, r => by simp only [CR] at r ⊢; obtain ⟨L, h1, h2⟩ := r; exact ⟨L, h.f _ _ h1, h2⟩
  | .fz _ _ _ _, _, r => by simp only [CR] at r ⊢; obtain ⟨h0, a, cap, h1, h2, h3, h4, h5⟩ := r; exact ⟨h0, a, cap, h1, h2, h3, h4, CRs.mono h h5⟩
  | .fp _ _, _, r => by simp only [CR] at r ⊢; obtain ⟨a, h1, h2⟩ := r; exact ⟨a, h1, CRs.mono h h2⟩
  | .cl _ _ _, _, r => by simp only [CR] at r ⊢; obtain ⟨a, b, h1, h2, h3⟩ := r; exact ⟨a, b, h1, CRl.mono h h2, CRl.mono h h3⟩
  | .ifc _ _, _, r => by simp only [CR] at r ⊢; obtain ⟨u, h1, h2⟩ := r; exact ⟨u, h1, CR.mono h h2⟩
theorem CRl.mono {φ ψ : Ph} (h : Le φ ψ) : ∀ {l : List SC} {r : List Value}, CRl φ l r → CRl ψ l r
  | [], _, r => by simpa only [CRl] using r
  | x :: l, _, r => by
    simp only [CRl] at r ⊢
    obtain ⟨u, r', h1, h2, h3⟩ := r
    exact ⟨u, r', h1, CR.mono h h2, CRl.mono h h3⟩
theorem CRs.mono {φ ψ : Ph} (h : Le φ ψ) {a : Addr} : ∀ {l : List SC} {i : Nat}, CRs φ a i l → CRs ψ a i l
  | [], _, _ => by simp [CRs]
  | x :: l, i, r => by
    simp only [CRs] at r ⊢
    obtain ⟨⟨u, h1, h2⟩, h3⟩ := r
    exact ⟨⟨u, h.cell h1, CR.mono h h2⟩, CRs.mono h h3⟩
end
theorem VR1.mono {φ ψ : Ph} (h : Le φ ψ) : ∀ {x : SV} {v : Value}, VR1 φ x v → VR1 ψ x v
  | .c _, _, r => CR.mono h r
  | .agg _, _, ⟨cs, h1, h2⟩ => ⟨cs, h1, h2.mono fun _ _ r => r.mono h⟩
  | .tup _, _, r => r
theorem VR.mono {φ ψ : Ph} (h : Le φ ψ) : ∀ {x : SV} {v : Value}, VR φ x v → VR ψ x v
  | .c _, _, r => CR.mono h r
  | .agg l, v, r => VR1.mono (x := .agg l) h r
  | .tup _, _, ⟨vs, h1, h2⟩ => ⟨vs, h1, h2.mono fun _ _ r => r.mono h⟩
theorem CR.one {φ : Ph} {x : SC} {v : Value} (r : CR φ x v) : v.oneCell' = true := by
  cases x with
  | mp b => cases b with
    | none => simp only [CR] at r; subst r; rfl
    | some b => simp only [CR] at r; obtain ⟨_, _, rfl⟩ := r; rfl
  | bool b => simp only [CR] at r; subst r; rfl
  | int k n => simp only [CR] at r; subst r; rfl
  | str l => simp only [CR] at r; obtain ⟨_, rfl, _⟩ := r; rfl
  | nilp => simp only [CR] at r; subst r; rfl
  | ptr b o => simp only [CR] at r; obtain ⟨_, _, rfl⟩ := r; rfl
  | nils => simp only [CR] at r; subst r; rfl
  | em => simp only [CR] at r; obtain ⟨_, _, rfl, _⟩ := r; rfl
  | sl b o n s c => simp only [CR] at r; obtain ⟨_, _, _, _, rfl, _⟩ := r; rfl
  | fz n s l c => simp only [CR] at r; obtain ⟨_, _, _, rfl, _⟩ := r; rfl
  | fp l o => simp only [CR] at r; obtain ⟨_, rfl, _⟩ := r; rfl
  | cl f x y => simp only [CR] at r; obtain ⟨_, _, rfl, _⟩ := r; rfl
  | ifc t x => simp only [CR] at r; obtain ⟨_, rfl, _⟩ := r; rfl
theorem CR.cells {φ : Ph} {x : SC} {v : Value} (h : CR φ x v) : v.cells = #[v] := by
  have := h.one
  cases v <;> simp_all [Value.oneCell', Value.cells]
/-- The cells of a value. -/
theorem VR.cells {φ : Ph} : ∀ {x : SV} {v : Value} {cs : List SC}, VR φ x v → x.cells = some cs → All2 (CR φ) cs v.cells.toList
  | .c x, v, cs, r, h => by
    simp only [SV.cells, Option.some.injEq] at h
    subst h
    rw [CR.cells r]
    exact ⟨r, trivial⟩
  | .agg l, v, cs, ⟨a, h1, h2⟩, h => by
    simp only [SV.cells, Option.some.injEq] at h
    subst h h1
    exact h2
  | .tup _, _, _, _, h => by simp [SV.cells] at h

/-- An entry of a map; a map. -/
def ER (φ : Ph) (p : Nat × SC × SV) (e : MapEntry) : Prop := e.born = p.1 ∧ CR φ p.2.1 e.key ∧ VR1 φ p.2.2 e.val
def MR (φ : Ph) : Option Nat → Option Nat → Prop
  | none, m => m = none
  | some b, m => ∃ L, φ b = some L ∧ m = some L.m
theorem ER.mono {φ ψ : Ph} (h : Le φ ψ) {p : Nat × SC × SV} {e : MapEntry} (r : ER φ p e) : ER ψ p e := ⟨r.1, r.2.1.mono h, r.2.2.mono h⟩
theorem MR.mono {φ ψ : Ph} (h : Le φ ψ) : ∀ {b m : Option Nat}, MR φ b m → MR ψ b m
  | none, _, r => r
  | some _, _, ⟨L, h1, h2⟩ => ⟨L, h.f _ _ h1, h2⟩
def Live (base : Nat) (φ : Ph) (w : World) (L : Loc) : SO → Prop
  | .row q own => L.len = q.length ∧ ∃ (cs : Array Value) (E : TypeId) (fr : Nat × Nat), w.heap[L.m]? = some (.cells cs E fr) ∧
      (∀ (i : Nat) (x : SC), q[i]? = some x → ∃ v, cs[L.m0 + i]? = some v ∧ CR φ x v) ∧
      (own = true → base ≤ L.m ∧ cs.size = L.sz ∧ L.m0 + q.length ≤ cs.size ∧ (fr.1 = fr.2 ∨ cs.size ≤ fr.1))
  | .map es clock => base ≤ L.m ∧ ∃ (vs : Array MapEntry), w.heap[L.m]? = some (.map vs clock) ∧ All2 (ER φ) es vs.toList
  | .iter m since seen last => base ≤ L.m ∧ L.m0 = 0 ∧ ∃ m', w.heap[L.m]? = some (.mapIter m' since seen.toArray last) ∧ MR φ m m'
def SO.own : SO → Bool
  | .row _ b => b
  | .map _ _ => true
  | .iter _ _ _ _ => true
/-- Blocks of one's own. -/
def Owns (φ : Ph) (h : SH) (b : Nat) (L : Loc) : Prop := ∃ q, h.get b = some q ∧ q.own = true ∧ φ b = some L
structure HR (base : Nat) (φ : Ph) (h : SH) (w : World) : Prop where
  dom : ∀ b L, φ b = some L → b < h.next
  lo : base ≤ w.heap.size
  live : ∀ b q, h.get b = some q → ∃ L, φ b = some L ∧ Live base φ w L q
  froz : ∀ m o, φ.fm m = some o → w.heap[m]? = some o ∧ ∀ b L, Owns φ h b L → L.m ≠ m
  inj : ∀ b b' q L L', Owns φ h b L → h.get b' = some q → φ b' = some L' → b ≠ b' → L.m ≠ L'.m
/-- What a piece of a run does to memory. -/
structure Mv (φ : Ph) (h : SH) (w : World) (φ' : Ph) (h' : SH) (w' : World) : Prop where
  le : Le φ φ'
  os : w'.os = w.os
  tape : w'.tape = w.tape
  output : w'.output = w.output
  size : w.heap.size ≤ w'.heap.size
  keep : ∀ k, k < w.heap.size → (∀ b L, Owns φ h b L → L.m ≠ k) → w'.heap[k]? = w.heap[k]?
  own : ∀ b L, Owns φ' h' b L → w.heap.size ≤ L.m ∨ ∃ b0 L0, Owns φ h b0 L0 ∧ L0.m = L.m
  has : ∀ b q L, h'.get b = some q → φ' b = some L → w.heap.size ≤ L.m ∨ ∃ b0 q0 L0, h.get b0 = some q0 ∧ φ b0 = some L0 ∧ L0.m = L.m
  fm : ∀ m o, φ'.fm m = some o → φ.fm m = some o ∨ w.heap.size ≤ m ∨ ∃ b L, Owns φ h b L ∧ L.m = m
  nx : h.next ≤ h'.next
  nw : ∀ b L, φ' b = some L → φ b = some L ∨ h.next ≤ b
theorem Mv.refl (φ : Ph) (h : SH) (w : World) : Mv φ h w φ h w := ⟨Le.refl _, rfl, rfl, rfl, Nat.le_refl _, fun _ _ _ => rfl, fun b L hb => .inr ⟨b, L, hb, rfl⟩, fun b q L hb hL => .inr ⟨b, q, L, hb, hL, rfl⟩, fun _ _ h => .inl h, Nat.le_refl _, fun _ _ h => .inl h⟩
theorem Mv.trans {φ φ1 φ2 : Ph} {h h1 h2 : SH} {w w1 w2 : World} (a : Mv φ h w φ1 h1 w1) (b : Mv φ1 h1 w1 φ2 h2 w2) : Mv φ h w φ2 h2 w2 := by
  refine ⟨a.le.trans b.le, b.os.trans a.os, b.tape.trans a.tape, b.output.trans a.output, Nat.le_trans a.size b.size, fun k hk hn => ?_, fun c L hc => ?_, fun c q L hc hL => ?_, fun m o hm => ?_, Nat.le_trans a.nx b.nx, fun c L hc => ?_⟩
  · refine (b.keep k (Nat.lt_of_lt_of_le hk a.size) fun c L hc => ?_).trans (a.keep k hk hn)
    rcases a.own c L hc with h1 | ⟨b0, L0, h1, h2⟩
    · omega
    · rw [← h2]; exact hn _ _ h1
  · rcases b.own c L hc with h1 | ⟨b0, L0, h1, h2⟩
    · exact .inl (Nat.le_trans a.size h1)
    · rw [← h2]; exact a.own _ _ h1
  · rcases b.has c q L hc hL with h1 | ⟨b0, q0, L0, h1, h2, h3⟩
    · exact .inl (Nat.le_trans a.size h1)
    · rw [← h3]; exact a.has _ _ _ h1 h2
  · rcases b.fm m o hm with h1 | h1 | ⟨c, L, h1, h2⟩
    · exact a.fm m o h1
    · exact .inr (.inl (Nat.le_trans a.size h1))
    · rcases a.own _ _ h1 with h3 | ⟨b0, L0, h3, h4⟩
      · exact .inr (.inl (by omega))
      · exact .inr (.inr ⟨b0, L0, h3, h4.trans h2⟩)
  · rcases b.nw c L hc with h1 | h1
    · exact a.nw c L h1
    · exact .inr (Nat.le_trans a.nx h1)
/-- Only memory counts. -/
theorem HR.same {base : Nat} {φ : Ph} {h : SH} {w w' : World} (r : HR base φ h w) (e : w'.heap = w.heap) : HR base φ h w' := by
  refine ⟨r.dom, by rw [e]; exact r.lo, fun b q hb => ?_, fun m o hm => by rw [e]; exact r.froz m o hm, r.inj⟩
  obtain ⟨L, h1, h2⟩ := r.live b q hb
  refine ⟨L, h1, ?_⟩
  cases q with
  | row q own => simpa only [Live, e] using h2
  | map es clock => simpa only [Live, e] using h2
  | iter m s n l => simpa only [Live, e] using h2
theorem Mv.same {φ : Ph} {h : SH} {w w' : World} (e : w'.heap = w.heap) (os : w'.os = w.os) (tape : w'.tape = w.tape) (output : w'.output = w.output) : Mv φ h w φ h w' :=
  ⟨Le.refl _, os, tape, output, by rw [e]; exact Nat.le_refl _, fun _ _ _ => by rw [e], fun b L hb => .inr ⟨b, L, hb, rfl⟩, fun b q L hb hL => .inr ⟨b, q, L, hb, hL, rfl⟩, fun _ _ h => .inl h, Nat.le_refl _, fun _ _ h => .inl h⟩
theorem Live.mono {base : Nat} {φ ψ : Ph} {w w' : World} {L : Loc} {q : SO} (hle : Le φ ψ) (hw : w'.heap[L.m]? = w.heap[L.m]?) (h : Live base φ w L q) : Live base ψ w' L q := by
  cases q with
  | row q own =>
    obtain ⟨h1, cs, E, fr, h2, h3, h4⟩ := h
    exact ⟨h1, cs, E, fr, hw.trans h2, fun i x hx => let ⟨v, a, b⟩ := h3 i x hx; ⟨v, a, b.mono hle⟩, h4⟩
  | map es clock =>
    obtain ⟨h1, vs, h2, h3⟩ := h
    exact ⟨h1, vs, hw.trans h2, h3.mono fun _ _ r => r.mono hle⟩
  | iter m s n l =>
    obtain ⟨h1, h2, m', h3, h4⟩ := h
    exact ⟨h1, h2, m', hw.trans h3, h4.mono hle⟩
theorem Live.lt {base : Nat} {φ : Ph} {w : World} {L : Loc} {q : SO} (h : Live base φ w L q) : L.m < w.heap.size := by
  cases q with
  | row q own => obtain ⟨_, cs, E, fr, h2, _⟩ := h; exact (Array.getElem?_eq_some_iff.1 h2).1
  | map es clock => obtain ⟨_, vs, h2, _⟩ := h; exact (Array.getElem?_eq_some_iff.1 h2).1
  | iter m s n l => obtain ⟨_, _, m', h2, _⟩ := h; exact (Array.getElem?_eq_some_iff.1 h2).1
theorem Live.base {base : Nat} {φ : Ph} {w : World} {L : Loc} {q : SO} (h : Live base φ w L q) (ho : q.own = true) : base ≤ L.m := by
  cases q with
  | row q own => obtain ⟨_, cs, E, fr, _, _, h4⟩ := h; exact (h4 ho).1
  | map es clock => exact h.1
  | iter m s n l => exact h.1
/-- φ with a new block. -/
def Ph.add (φ : Ph) (b : Nat) (L : Loc) : Ph := { φ with f := fun j => if j = b then some L else φ j }
theorem Ph.le_add {φ : Ph} {b : Nat} {L : Loc} (h : φ b = none) : Le φ (φ.add b L) := by
  refine ⟨fun j M hj => ?_, fun m o hm => hm⟩
  unfold Ph.add
  by_cases e : j = b
  · subst e; rw [h] at hj; cases hj
  · simp [e, hj]
theorem Ph.add_new {φ : Ph} {n c : Nat} {L M : Loc} (h : (φ.add n L) c = some M) : φ c = some M ∨ n ≤ c := by
  by_cases e : c = n
  · exact .inr (by omega)
  · left; simpa [Ph.add, e] using h
theorem HR.fresh {base : Nat} {φ : Ph} {h : SH} {w : World} (r : HR base φ h w) : φ h.next = none := by
  cases e : φ h.next with
  | none => rfl
  | some L => exact absurd (r.dom _ _ e) (Nat.lt_irrefl _)
theorem HR.old {base : Nat} {φ : Ph} {h : SH} {w : World} (r : HR base φ h w) {b : Nat} {q : SO} (hb : h.get b = some q) : b < h.next := by
  obtain ⟨L, h1, _⟩ := r.live b q hb
  exact r.dom _ _ h1
/-- A new row. -/
theorem HR.alloc {base : Nat} {φ : Ph} {h : SH} {w w' : World} (r : HR base φ h w) (q : List SC) (cs : Array Value) (E : TypeId) (fr : Nat × Nat)
    (hsz : w'.heap.size = w.heap.size + 1) (hold : ∀ k, k < w.heap.size → w'.heap[k]? = w.heap[k]?) (hnew : w'.heap[w.heap.size]? = some (.cells cs E fr))
    (hq : ∀ (i : Nat) (x : SC), q[i]? = some x → ∃ v, cs[i]? = some v ∧ CR φ x v) (hfr : (fr.1 = fr.2 ∨ cs.size ≤ fr.1))
    (os : w'.os = w.os) (tape : w'.tape = w.tape) (output : w'.output = w.output) :
    HR base (φ.add h.next ⟨w.heap.size, 0, cs.size, q.length⟩) (h.new q) w' ∧ Mv φ h w (φ.add h.next ⟨w.heap.size, 0, cs.size, q.length⟩) (h.new q) w' ∧
      (φ.add h.next ⟨w.heap.size, 0, cs.size, q.length⟩) h.next = some ⟨w.heap.size, 0, cs.size, q.length⟩ := by
  have hle : Le φ (φ.add h.next ⟨w.heap.size, 0, cs.size, q.length⟩) := Ph.le_add r.fresh
  have hat : (φ.add h.next ⟨w.heap.size, 0, cs.size, q.length⟩) h.next = some ⟨w.heap.size, 0, cs.size, q.length⟩ := by simp [Ph.add]
  have hne : ∀ b, b ≠ h.next → (φ.add h.next ⟨w.heap.size, 0, cs.size, q.length⟩) b = φ b := fun b hb => by simp [Ph.add, hb]
  have hql : 0 + q.length ≤ cs.size := by
    rcases Nat.eq_zero_or_pos q.length with h0 | h0
    · omega
    · obtain ⟨v, hv, _⟩ := hq (q.length - 1) q[q.length - 1] (List.getElem?_eq_getElem (by omega))
      have := (Array.getElem?_eq_some_iff.1 hv).1
      omega
  refine ⟨⟨fun b L hb => ?_, by have := r.lo; omega, fun b o hb => ?_, fun m o hm => ?_, ?_⟩, ⟨hle, os, tape, output, by omega, fun k hk _ => hold k hk, ?_, ?_, fun _ _ h => .inl h, Nat.le_succ _, fun c M hc => Ph.add_new hc⟩, hat⟩
  · by_cases e : b = h.next
    · subst e; simp
    · rw [hne b e] at hb; have := r.dom _ _ hb; simp; omega
  · rw [SH.get_new] at hb
    by_cases e : b = h.next
    · rw [if_pos e] at hb
      cases hb
      subst e
      exact ⟨_, hat, rfl, cs, E, fr, hnew, fun i x hx => let ⟨v, a, b⟩ := hq i x hx; ⟨v, by simpa using a, b.mono hle⟩, fun _ => ⟨r.lo, rfl, hql, hfr⟩⟩
    · rw [if_neg e] at hb
      obtain ⟨L, h1, h2⟩ := r.live b o hb
      exact ⟨L, hle.f _ _ h1, h2.mono hle (hold _ h2.lt)⟩
  · obtain ⟨g1, g2⟩ := r.froz m o hm
    have hlt : m < w.heap.size := (Array.getElem?_eq_some_iff.1 g1).1
    refine ⟨(hold m hlt).trans g1, ?_⟩
    rintro b L ⟨q1, hb, ho, hL⟩
    rw [SH.get_new] at hb
    by_cases e : b = h.next
    · subst e
      rw [hat] at hL; cases hL
      simp only; omega
    · rw [if_neg e] at hb
      rw [hne b e] at hL
      exact g2 b L ⟨q1, hb, ho, hL⟩
  · rintro b b' o L L' ⟨o1, hb, ho, hL⟩ hb' hL' hbb
    rw [SH.get_new] at hb hb'
    by_cases e : b = h.next
    · subst e
      rw [hat] at hL; cases hL
      rw [if_neg (fun e => hbb e.symm)] at hb'
      obtain ⟨M, h1, h2⟩ := r.live b' o hb'
      rw [hle.f _ _ h1] at hL'
      cases hL'
      have := h2.lt
      simp only
      omega
    · rw [if_neg e] at hb
      rw [hne b e] at hL
      by_cases e' : b' = h.next
      · subst e'
        rw [hat] at hL'; cases hL'
        obtain ⟨M, h1, h2⟩ := r.live b o1 hb
        rw [h1] at hL
        cases hL
        have := h2.lt
        simp only
        omega
      · rw [if_neg e'] at hb'
        rw [hne b' e'] at hL'
        exact r.inj b b' o L L' ⟨o1, hb, ho, hL⟩ hb' hL' hbb
  · rintro b L ⟨o, hb, ho, hL⟩
    rw [SH.get_new] at hb
    by_cases e : b = h.next
    · subst e
      rw [hat] at hL; cases hL
      exact .inl (Nat.le_refl _)
    · rw [if_neg e] at hb
      rw [hne b e] at hL
      exact .inr ⟨b, L, ⟨o, hb, ho, hL⟩, rfl⟩
  · intro b o L hb hL
    rw [SH.get_new] at hb
    by_cases e : b = h.next
    · subst e
      rw [hat] at hL; cases hL
      exact .inl (Nat.le_refl _)
    · rw [if_neg e] at hb
      rw [hne b e] at hL
      exact .inr ⟨b, o, L, hb, hL, rfl⟩
/-- A new object that is no row. -/
theorem HR.allocO {base : Nat} {φ : Ph} {h : SH} {w w' : World} (r : HR base φ h w) (q : SO) (o : Obj) (hnr : q.own = true)
    (hsz : w'.heap.size = w.heap.size + 1) (hold : ∀ k, k < w.heap.size → w'.heap[k]? = w.heap[k]?) (hnew : w'.heap[w.heap.size]? = some o)
    (hq : ∀ ψ, Le φ ψ → Live base ψ w' ⟨w.heap.size, 0, 0, 0⟩ q)
    (os : w'.os = w.os) (tape : w'.tape = w.tape) (output : w'.output = w.output) :
    HR base (φ.add h.next ⟨w.heap.size, 0, 0, 0⟩) (h.newO q) w' ∧ Mv φ h w (φ.add h.next ⟨w.heap.size, 0, 0, 0⟩) (h.newO q) w' ∧
      (φ.add h.next ⟨w.heap.size, 0, 0, 0⟩) h.next = some ⟨w.heap.size, 0, 0, 0⟩ := by
  have hle : Le φ (φ.add h.next ⟨w.heap.size, 0, 0, 0⟩) := Ph.le_add r.fresh
  have hat : (φ.add h.next ⟨w.heap.size, 0, 0, 0⟩) h.next = some ⟨w.heap.size, 0, 0, 0⟩ := by simp [Ph.add]
  have hne : ∀ b, b ≠ h.next → (φ.add h.next ⟨w.heap.size, 0, 0, 0⟩) b = φ b := fun b hb => by simp [Ph.add, hb]
  refine ⟨⟨fun b L hb => ?_, by have := r.lo; omega, fun b o hb => ?_, fun m o hm => ?_, ?_⟩, ⟨hle, os, tape, output, by omega, fun k hk _ => hold k hk, ?_, ?_, fun _ _ h => .inl h, Nat.le_succ _, fun c M hc => Ph.add_new hc⟩, hat⟩
  · by_cases e : b = h.next
    · subst e; simp
    · rw [hne b e] at hb; have := r.dom _ _ hb; simp; omega
  · rw [SH.get_newO] at hb
    by_cases e : b = h.next
    · rw [if_pos e] at hb
      cases hb
      subst e
      exact ⟨_, hat, hq _ hle⟩
    · rw [if_neg e] at hb
      obtain ⟨L, h1, h2⟩ := r.live b o hb
      exact ⟨L, hle.f _ _ h1, h2.mono hle (hold _ h2.lt)⟩
  · obtain ⟨g1, g2⟩ := r.froz m o hm
    have hlt : m < w.heap.size := (Array.getElem?_eq_some_iff.1 g1).1
    refine ⟨(hold m hlt).trans g1, ?_⟩
    rintro b L ⟨q1, hb, ho, hL⟩
    rw [SH.get_newO] at hb
    by_cases e : b = h.next
    · subst e
      rw [hat] at hL; cases hL
      simp only; omega
    · rw [if_neg e] at hb
      rw [hne b e] at hL
      exact g2 b L ⟨q1, hb, ho, hL⟩
  · rintro b b' o L L' ⟨o1, hb, ho, hL⟩ hb' hL' hbb
    rw [SH.get_newO] at hb hb'
    by_cases e : b = h.next
    · subst e
      rw [hat] at hL; cases hL
      rw [if_neg (fun e => hbb e.symm)] at hb'
      obtain ⟨M, h1, h2⟩ := r.live b' o hb'
      rw [hle.f _ _ h1] at hL'
      cases hL'
      have := h2.lt
      simp only
      omega
    · rw [if_neg e] at hb
      rw [hne b e] at hL
      by_cases e' : b' = h.next
      · subst e'
        rw [hat] at hL'; cases hL'
        obtain ⟨M, h1, h2⟩ := r.live b o1 hb
        rw [h1] at hL
        cases hL
        have := h2.lt
        simp only
        omega
      · rw [if_neg e'] at hb'
        rw [hne b' e'] at hL'
        exact r.inj b b' o L L' ⟨o1, hb, ho, hL⟩ hb' hL' hbb
  · rintro b L ⟨o, hb, ho, hL⟩
    rw [SH.get_newO] at hb
    by_cases e : b = h.next
    · subst e
      rw [hat] at hL; cases hL
      exact .inl (Nat.le_refl _)
    · rw [if_neg e] at hb
      rw [hne b e] at hL
      exact .inr ⟨b, L, ⟨o, hb, ho, hL⟩, rfl⟩
  · intro b o L hb hL
    rw [SH.get_newO] at hb
    by_cases e : b = h.next
    · subst e
      rw [hat] at hL; cases hL
      exact .inl (Nat.le_refl _)
    · rw [if_neg e] at hb
      rw [hne b e] at hL
      exact .inr ⟨b, o, L, hb, hL, rfl⟩
/-- Blocks are forgotten. -/
theorem HR.forget {base : Nat} {φ : Ph} {h h' : SH} {w : World} (r : HR base φ h w) (hn : h.next ≤ h'.next) (hs : ∀ b q, h'.get b = some q → h.get b = some q) : HR base φ h' w ∧ Mv φ h w φ h' w := by
  have ho : ∀ b L, Owns φ h' b L → Owns φ h b L := fun b L ⟨q, a, b, c⟩ => ⟨q, hs _ _ a, b, c⟩
  exact ⟨⟨fun b L hb => Nat.lt_of_lt_of_le (r.dom b L hb) hn, r.lo, fun b q hb => r.live b q (hs b q hb), fun m o hm => ⟨(r.froz m o hm).1, fun b L hb => (r.froz m o hm).2 b L (ho _ _ hb)⟩, fun b b' q L L' h1 h2 h3 h4 => r.inj b b' q L L' (ho _ _ h1) (hs _ _ h2) h3 h4⟩,
    ⟨Le.refl _, rfl, rfl, rfl, Nat.le_refl _, fun _ _ _ => rfl, fun b L hb => .inr ⟨b, L, ho _ _ hb, rfl⟩, fun b q L hb hL => .inr ⟨b, q, L, hs _ _ hb, hL, rfl⟩, fun _ _ h => .inl h, hn, fun _ _ h => .inl h⟩⟩
/-- The content of a block of one's own changes. -/
theorem HR.change {base : Nat} {φ : Ph} {h : SH} {w w' : World} (r : HR base φ h w) {b : Nat} {L : Loc} (hb : Owns φ h b L) (q : SO) (hsz : w'.heap.size = w.heap.size)
    (hold : ∀ k, k ≠ L.m → w'.heap[k]? = w.heap[k]?) (hq : Live base φ w' L q) (os : w'.os = w.os) (tape : w'.tape = w.tape) (output : w'.output = w.output) :
    HR base φ (h.put b (some q)) w' ∧ Mv φ h w φ (h.put b (some q)) w' := by
  obtain ⟨q0, hg, ho, hL⟩ := hb
  refine ⟨⟨r.dom, by rw [hsz]; exact r.lo, fun c o hc => ?_, fun m o hm => ?_, ?_⟩, ⟨Le.refl _, os, tape, output, by omega, fun k hk hn => ?_, ?_, ?_, fun _ _ h => .inl h, Nat.le_refl _, fun _ _ h => .inl h⟩⟩
  · rw [SH.get_put] at hc
    by_cases e : c = b
    · rw [if_pos e] at hc
      cases hc
      subst e
      exact ⟨L, hL, hq⟩
    · rw [if_neg e] at hc
      obtain ⟨M, h1, h2⟩ := r.live c o hc
      exact ⟨M, h1, h2.mono (Le.refl _) (hold _ (fun e' => r.inj b c o L M ⟨q0, hg, ho, hL⟩ hc h1 (fun e'' => e e''.symm) e'.symm))⟩
  · obtain ⟨g1, g2⟩ := r.froz m o hm
    refine ⟨(hold m (fun e => g2 b L ⟨q0, hg, ho, hL⟩ e.symm)).trans g1, ?_⟩
    rintro c M ⟨q1, hc, hoc, hM⟩
    rw [SH.get_put] at hc
    by_cases e : c = b
    · subst e
      rw [hL] at hM; cases hM
      exact g2 c L ⟨q0, hg, ho, hL⟩
    · rw [if_neg e] at hc
      exact g2 c M ⟨q1, hc, hoc, hM⟩
  · rintro c c' o M M' ⟨o1, hc, hoc, hM⟩ hc' hM' hcc
    rw [SH.get_put] at hc hc'
    by_cases e : c = b
    · subst e
      rw [hL] at hM; cases hM
      rw [if_neg (fun e => hcc e.symm)] at hc'
      exact r.inj c c' o L M' ⟨q0, hg, ho, hL⟩ hc' hM' hcc
    · rw [if_neg e] at hc
      by_cases e' : c' = b
      · subst e'
        exact r.inj c c' q0 M M' ⟨o1, hc, hoc, hM⟩ hg hM' hcc
      · rw [if_neg e'] at hc'
        exact r.inj c c' o M M' ⟨o1, hc, hoc, hM⟩ hc' hM' hcc
  · exact hold k (fun e => hn b L ⟨q0, hg, ho, hL⟩ e.symm)
  · rintro c M ⟨o, hc, hoc, hM⟩
    rw [SH.get_put] at hc
    by_cases e : c = b
    · subst e
      exact .inr ⟨c, L, ⟨q0, hg, ho, hL⟩, by rw [hL] at hM; cases hM; rfl⟩
    · rw [if_neg e] at hc
      exact .inr ⟨c, M, ⟨o, hc, hoc, hM⟩, rfl⟩
  · intro c o M hc hM
    rw [SH.get_put] at hc
    by_cases e : c = b
    · subst e
      exact .inr ⟨c, q0, L, hg, hL, by rw [hL] at hM; cases hM; rfl⟩
    · rw [if_neg e] at hc
      exact .inr ⟨c, o, M, hc, hM, rfl⟩
/-- A block of one's own gets another number, and another content. -/
theorem HR.rename {base : Nat} {φ : Ph} {h : SH} {w w' : World} (r : HR base φ h w) {b : Nat} {L : Loc} (hb : Owns φ h b L) (q : List SC) (L' : Loc) (hm' : L'.m = L.m) (hq : Live base φ w' L' (.row q true))
    (hsz : w'.heap.size = w.heap.size) (hold : ∀ k, k ≠ L.m → w'.heap[k]? = w.heap[k]?) (os : w'.os = w.os) (tape : w'.tape = w.tape) (output : w'.output = w.output) :
    HR base (φ.add h.next L') ((h.put b none).new q) w' ∧ Mv φ h w (φ.add h.next L') ((h.put b none).new q) w' ∧ (φ.add h.next L') h.next = some L' := by
  obtain ⟨q0, hg, ho, hL⟩ := hb
  have hle : Le φ (φ.add h.next L') := Ph.le_add r.fresh
  have hat : (φ.add h.next L') h.next = some L' := by simp [Ph.add]
  have hne : ∀ j, j ≠ h.next → (φ.add h.next L') j = φ j := fun j hj => by simp [Ph.add, hj]
  have hget : ∀ j o, ((h.put b none).new q).get j = some o → (j = h.next ∧ o = .row q true) ∨ (j ≠ h.next ∧ j ≠ b ∧ h.get j = some o) := by
    intro j o hj
    rw [SH.get_new] at hj
    by_cases e : j = h.next
    · rw [if_pos (by simpa using e)] at hj; cases hj; exact .inl ⟨e, rfl⟩
    · rw [if_neg (by simpa using e), SH.get_put] at hj
      by_cases e' : j = b
      · rw [if_pos e'] at hj; cases hj
      · rw [if_neg e'] at hj; exact .inr ⟨e, e', hj⟩
  refine ⟨⟨fun j M hj => ?_, by rw [hsz]; exact r.lo, fun j o hj => ?_, fun m o hm => ?_, ?_⟩, ⟨hle, os, tape, output, by omega, fun k hk hn => hold k (fun e => hn b L ⟨q0, hg, ho, hL⟩ e.symm), ?_, ?_, fun _ _ h => .inl h, Nat.le_succ _, fun c M hc => Ph.add_new hc⟩, hat⟩
  · by_cases e : j = h.next
    · subst e; simp
    · rw [hne j e] at hj; have := r.dom _ _ hj; simp; omega
  · rcases hget j o hj with ⟨e, rfl⟩ | ⟨e, e', hj⟩
    · subst e; exact ⟨_, hat, hq.mono hle rfl⟩
    · obtain ⟨M, h1, h2⟩ := r.live j o hj
      exact ⟨M, hle.f _ _ h1, h2.mono hle (hold _ (fun e'' => r.inj b j o L M ⟨q0, hg, ho, hL⟩ hj h1 (fun x => e' x.symm) e''.symm))⟩
  · obtain ⟨g1, g2⟩ := r.froz m o hm
    refine ⟨(hold m (fun e => g2 b L ⟨q0, hg, ho, hL⟩ e.symm)).trans g1, ?_⟩
    rintro c M ⟨q1, hc, hoc, hM⟩
    rcases hget c q1 hc with ⟨e, rfl⟩ | ⟨e, e1, hc⟩
    · subst e
      rw [hat] at hM; cases hM
      rw [hm']
      exact g2 b L ⟨q0, hg, ho, hL⟩
    · rw [hne c e] at hM
      exact g2 c M ⟨q1, hc, hoc, hM⟩
  · rintro c c' o M M' ⟨o1, hc, hoc, hM⟩ hc' hM' hcc
    rcases hget c o1 hc with ⟨e, rfl⟩ | ⟨e, e1, hc⟩
    · subst e
      rw [hat] at hM; cases hM
      rcases hget c' o hc' with ⟨e', _⟩ | ⟨e', e1', hc'⟩
      · exact absurd e'.symm hcc
      · rw [hne c' e'] at hM'
        rw [hm']
        exact r.inj b c' o L M' ⟨q0, hg, ho, hL⟩ hc' hM' (fun e => e1' e.symm)
    · rw [hne c e] at hM
      rcases hget c' o hc' with ⟨e', rfl⟩ | ⟨e', e1', hc'⟩
      · subst e'
        rw [hat] at hM'; cases hM'
        rw [hm']
        exact r.inj c b q0 M L ⟨o1, hc, hoc, hM⟩ hg hL e1
      · rw [hne c' e'] at hM'
        exact r.inj c c' o M M' ⟨o1, hc, hoc, hM⟩ hc' hM' hcc
  · rintro c M ⟨o, hc, hoc, hM⟩
    rcases hget c o hc with ⟨e, rfl⟩ | ⟨e, e1, hc⟩
    · subst e
      rw [hat] at hM; cases hM
      exact .inr ⟨b, L, ⟨q0, hg, ho, hL⟩, hm'.symm⟩
    · rw [hne c e] at hM
      exact .inr ⟨c, M, ⟨o, hc, hoc, hM⟩, rfl⟩
  · intro c o M hc hM
    rcases hget c o hc with ⟨e, rfl⟩ | ⟨e, e1, hc⟩
    · subst e
      rw [hat] at hM; cases hM
      exact .inr ⟨b, q0, L, hg, hL, hm'.symm⟩
    · rw [hne c e] at hM
      exact .inr ⟨c, o, M, hc, hM, rfl⟩
end Go.Proofs.Ytgaaffanoegbhaa.Sim
