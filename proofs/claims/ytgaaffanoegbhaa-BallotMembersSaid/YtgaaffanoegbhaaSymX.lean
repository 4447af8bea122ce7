/- Code over values with names: what is said of it, and how it is shown. No program in sight. -/
import Derived.Test.YtgaaffanoegbhaaSymO
namespace Go.Proofs.Ytgaaffanoegbhaa.Sym
open Go Go.RowKit Go.Proofs.Ytgaaffanoegbhaa.Sim
set_option linter.unusedSimpArgs false
set_option linter.unusedVariables false

/-- An operation with its guard's slot and its own. -/
structure LOp where
  g : Option (Nat × Bool)
  d : Option Nat
  k : LK
inductive LC where
  | skip
  | ret
  | exit (id : Nat)
  | seq (a b : LC)
  | cond (x : LX) (a b : LC)
  | block (id : Nat) (a : LC)
  | loop (a : LC)
  | reg (id : Nat) (l : List LOp)
  | regD (id : Nat) (l : List LOp)
  | regF (id : Nat) (l : List LOp) (fl : List (Nat × List Nat))
def lowG (ops : Array Oper) : Option (Nat × Bool) → Option (Option (Nat × Bool))
  | none => some none
  | some (j, w) => match ops[j]? with
    | some p => match p.dst with
      | some d => some (some (d, w))
      | none => none
    | none => none
def lowerOp (P : Program) (n : Nat) (ops : Array Oper) (o : Oper) : Option LOp :=
  match dOK n o.dst with
  | true => match lowG ops o.guard, lowerK P o.op with
    | some g, some k => match o.dst with
      | some d => some ⟨g, some d, k⟩
      | none => some ⟨g, none, k⟩
    | _, _ => none
  | false => none
def lowerL (P : Program) (n : Nat) (ops : Array Oper) : List Oper → Option (List LOp)
  | [] => some []
  | o :: l => match lowerOp P n ops o, lowerL P n ops l with
    | some x, some r => some (x :: r)
    | _, _ => none
def litL : List Nat → Option (List Nat)
  | [] => some []
  | x :: l => match lit x, litL l with
    | some x, some l => some (x :: l)
    | _, _ => none
def litF : List (Nat × List Nat) → Option (List (Nat × List Nat))
  | [] => some []
  | (i, ks) :: l => match lit i, litL ks, litF l with
    | some i, some ks, some l => some ((i, ks) :: l)
    | _, _, _ => none
theorem litL_eq : ∀ {l r : List Nat}, litL l = some r → r = l
  | [], r, h => by simp only [litL, Option.some.injEq] at h; exact h.symm
  | x :: l, r, h => by
    simp only [litL] at h
    split at h
    · rename_i y q h1 h2
      simp only [Option.some.injEq] at h
      rw [← h, lit_eq h1, litL_eq h2]
    · cases h
theorem litF_eq : ∀ {l r : List (Nat × List Nat)}, litF l = some r → r = l
  | [], r, h => by simp only [litF, Option.some.injEq] at h; exact h.symm
  | (i, ks) :: l, r, h => by
    simp only [litF] at h
    split at h
    · rename_i y q z h1 h2 h3
      simp only [Option.some.injEq] at h
      rw [← h, lit_eq h1, litL_eq h2, litF_eq h3]
    · cases h
def lowerC (P : Program) (n : Nat) : Code → Option LC
  | .skip => some .skip
  | .ret => some .ret
  | .exit id => some (.exit id)
  | .seq a b => match lowerC P n a, lowerC P n b with
    | some a, some b => some (.seq a b)
    | _, _ => none
  | .cond c a b => match lowX c, lowerC P n a, lowerC P n b with
    | some x, some a, some b => some (.cond x a b)
    | _, _, _ => none
  | .block id a => match lowerC P n a with
    | some a => some (.block id a)
    | none => none
  | .loop a => match lowerC P n a with
    | some a => some (.loop a)
    | none => none
  | .region id ops false => match lowerL P n ops ops.toList with
    | some l => some (.reg id l)
    | none => none
  | .region id ops true => match inOrder P ops (masks ops.toList []) ops.toList 0 [] with
    | true => match lowerL P n ops ops.toList, litF (floats P ops) with
      | some l, some [] => some (.regD id l)
      | some l, some (f :: fl) => some (.regF id l (f :: fl))
      | _, _ => none
    | false => none
  | _ => none
theorem lowerOp_eq {P : Program} {n : Nat} {ops : Array Oper} {o : Oper} {x : LOp} (h : lowerOp P n ops o = some x) : dOK n o.dst = true ∧ lowG ops o.guard = some x.g ∧ Lw P o.op x.k ∧ o.dst = x.d := by
  unfold lowerOp at h
  split at h
  · rename_i hd
    split at h
    · rename_i g k h1 h2
      split at h
      · rename_i d h3
        simp only [Option.some.injEq] at h
        subst h
        exact ⟨hd, h1, lowerK_Lw h2, h3⟩
      · rename_i h3
        simp only [Option.some.injEq] at h
        subst h
        exact ⟨hd, h1, lowerK_Lw h2, h3⟩
    · cases h
  · cases h
theorem lowerL_cons {P : Program} {n : Nat} {ops : Array Oper} {lo : List Oper} {x : LOp} {l : List LOp} (h : lowerL P n ops lo = some (x :: l)) : ∃ o r, lo = o :: r ∧ lowerOp P n ops o = some x ∧ lowerL P n ops r = some l := by
  cases lo with
  | nil => simp [lowerL] at h
  | cons o r =>
    simp only [lowerL] at h
    split at h
    · rename_i y q h1 h2
      simp only [Option.some.injEq, List.cons.injEq] at h
      obtain ⟨rfl, rfl⟩ := h
      exact ⟨o, r, rfl, h1, h2⟩
    · cases h
theorem lowerL_nil {P : Program} {n : Nat} {ops : Array Oper} {lo : List Oper} (h : lowerL P n ops lo = some []) : lo = [] := by
  cases lo with
  | nil => rfl
  | cons o r =>
    simp only [lowerL] at h
    split at h
    · simp at h
    · cases h
section inv
variable {P : Program} {n : Nat} {c : Code}
theorem lowerC_skip (h : lowerC P n c = some .skip) : c = .skip := by
  unfold lowerC at h; repeat' split at h
  all_goals first | rfl | (cases h; done)
theorem lowerC_ret (h : lowerC P n c = some .ret) : c = .ret := by
  unfold lowerC at h; repeat' split at h
  all_goals first | rfl | (cases h; done)
theorem lowerC_exit {id : Nat} (h : lowerC P n c = some (.exit id)) : c = .exit id := by
  unfold lowerC at h; repeat' split at h
  all_goals first | (cases h; rfl) | (cases h; done)
theorem lowerC_seq {a b : LC} (h : lowerC P n c = some (.seq a b)) : ∃ x y, c = .seq x y ∧ lowerC P n x = some a ∧ lowerC P n y = some b := by
  unfold lowerC at h; repeat' split at h
  all_goals first | (cases h; exact ⟨_, _, rfl, by assumption, by assumption⟩) | (cases h; done)
theorem lowerC_cond {a b : LC} {v : LX} (h : lowerC P n c = some (.cond v a b)) : ∃ o x y, c = .cond o x y ∧ lowX o = some v ∧ lowerC P n x = some a ∧ lowerC P n y = some b := by
  unfold lowerC at h; repeat' split at h
  all_goals first | (cases h; exact ⟨_, _, _, rfl, by assumption, by assumption, by assumption⟩) | (cases h; done)
theorem lowerC_block {a : LC} {id : Nat} (h : lowerC P n c = some (.block id a)) : ∃ x, c = .block id x ∧ lowerC P n x = some a := by
  unfold lowerC at h; repeat' split at h
  all_goals first | (cases h; exact ⟨_, rfl, by assumption⟩) | (cases h; done)
theorem lowerC_loop {a : LC} (h : lowerC P n c = some (.loop a)) : ∃ x, c = .loop x ∧ lowerC P n x = some a := by
  unfold lowerC at h; repeat' split at h
  all_goals first | (cases h; exact ⟨_, rfl, by assumption⟩) | (cases h; done)
theorem lowerC_reg {l : List LOp} {id : Nat} (h : lowerC P n c = some (.reg id l)) : ∃ ops, c = .region id ops false ∧ lowerL P n ops ops.toList = some l := by
  unfold lowerC at h; repeat' split at h
  all_goals first | (cases h; exact ⟨_, rfl, by assumption⟩) | (cases h; done)
theorem lowerC_regD {l : List LOp} {id : Nat} (h : lowerC P n c = some (.regD id l)) : ∃ ops, c = .region id ops true ∧ lowerL P n ops ops.toList = some l ∧ inOrder P ops (masks ops.toList []) ops.toList 0 [] = true ∧ floats P ops = [] := by
  unfold lowerC at h; repeat' split at h
  all_goals first | (cases h; exact ⟨_, rfl, by assumption, by assumption, (litF_eq (by assumption)).symm⟩) | (cases h; done)
theorem lowerC_regF {l : List LOp} {id : Nat} {fl : List (Nat × List Nat)} (h : lowerC P n c = some (.regF id l fl)) : ∃ ops, c = .region id ops true ∧ lowerL P n ops ops.toList = some l ∧ inOrder P ops (masks ops.toList []) ops.toList 0 [] = true ∧ floats P ops = fl := by
  unfold lowerC at h; repeat' split at h
  all_goals first | (cases h; exact ⟨_, rfl, by assumption, by assumption, (litF_eq (by assumption)).symm⟩) | (cases h; done)
end inv

/-- What a piece of a run does to memory; the first k names stay. -/
structure Mo (k : Nat) (φ φ' : Ph) (h : SH) (w : World) (h' : SH) (w' : World) : Prop where
  le : ∀ b L, b < k → φ b = some L → φ' b = some L
  lfm : ∀ m o, φ.fm m = some o → φ'.fm m = some o
  os : w'.os = w.os
  tape : w'.tape = w.tape
  output : w'.output = w.output
  size : w.heap.size ≤ w'.heap.size
  keep : ∀ q, q < w.heap.size → (∀ b L, Owns φ h b L → L.m ≠ q) → w'.heap[q]? = w.heap[q]?
  own : ∀ b L, Owns φ' h' b L → w.heap.size ≤ L.m ∨ ∃ b0 L0, Owns φ h b0 L0 ∧ L0.m = L.m
  has : ∀ b q L, h'.get b = some q → φ' b = some L → w.heap.size ≤ L.m ∨ ∃ b0 q0 L0, h.get b0 = some q0 ∧ φ b0 = some L0 ∧ L0.m = L.m
  fm : ∀ m o, φ'.fm m = some o → φ.fm m = some o ∨ w.heap.size ≤ m ∨ ∃ b L, Owns φ h b L ∧ L.m = m
theorem Mo.of {k : Nat} {φ φ' : Ph} {h h' : SH} {w w' : World} (m : Mv φ h w φ' h' w') : Mo k φ φ' h w h' w' :=
  ⟨fun b L _ hb => m.le.f b L hb, m.le.fm, m.os, m.tape, m.output, m.size, m.keep, m.own, m.has, m.fm⟩
theorem Mo.refl (k : Nat) (φ : Ph) (h : SH) (w : World) : Mo k φ φ h w h w := .of (Mv.refl φ h w)
theorem Mo.trans {k : Nat} {φ φ1 φ2 : Ph} {h h1 h2 : SH} {w w1 w2 : World} (a : Mo k φ φ1 h w h1 w1) (b : Mo k φ1 φ2 h1 w1 h2 w2) : Mo k φ φ2 h w h2 w2 := by
  refine ⟨fun c L hc hL => b.le c L hc (a.le c L hc hL), fun m o hm => b.lfm m o (a.lfm m o hm), b.os.trans a.os, b.tape.trans a.tape, b.output.trans a.output, Nat.le_trans a.size b.size, fun q hq hn => ?_, fun c L hc => ?_, fun c q L hc hL => ?_, fun m o hm => ?_⟩
  · refine (b.keep q (Nat.lt_of_lt_of_le hq a.size) fun c L hc => ?_).trans (a.keep q hq hn)
    rcases a.own c L hc with h1 | ⟨b0, L0, h1, h2⟩
    · omega
    · rw [← h2]; exact hn _ _ h1
  · rcases b.own c L hc with h1 | ⟨b0, L0, h1, h2⟩
    · exact .inl (Nat.le_trans a.size h1)
    · rw [← h2]; exact a.own _ _ h1
  · rcases b.has c q L hc hL with h1 | ⟨b0, q0, L0, h1, h2, h3⟩
    · exact .inl (Nat.le_trans a.size h1)
    · rw [← h3]; exact a.has _ _ _ h1 h2
  · rcases b.fm m o hm with h1 | h1 | ⟨c, L, h1, h2⟩
    · exact a.fm m o h1
    · exact .inr (.inl (Nat.le_trans a.size h1))
    · rcases a.own _ _ h1 with h3 | ⟨b0, L0, h3, h4⟩
      · exact .inr (.inl (by omega))
      · exact .inr (.inr ⟨b0, L0, h3, h4.trans h2⟩)

abbrev QX := Ex → Env → HS → Prop
def XPost (base n k : Nat) (φ : Ph) (h : HS) (w : World) (ds : List Deferred) (Q : QX) : Exit → Act → World → Prop :=
  fun ex a' w' => ∃ x e' h' φ', Q x e' h' ∧ ex = exOf x ∧ TR φ' (toSF n e') a' ∧ a'.defers = ds ∧ HR base φ' h'.sh w' ∧ Mo k φ φ' h.sh w h'.sh w'
theorem XPost.of {base n k : Nat} {φ φ1 : Ph} {h h1 : HS} {w w1 : World} {ds : List Deferred} {Q : QX} (m : Mo k φ φ1 h.sh w h1.sh w1) {ex : Exit} {a' : Act} {w' : World} (p : XPost base n k φ1 h1 w1 ds Q ex a' w') : XPost base n k φ h w ds Q ex a' w' := by
  obtain ⟨x, e', h', φ', p1, p2, p3, p4, p5, p6⟩ := p
  exact ⟨x, e', h', φ', p1, p2, p3, p4, p5, m.trans p6⟩
/-- Code c, run with these slots and this memory, ends, and so. -/
structure X (P : Program) (base n k : Nat) (c : LC) (e : Env) (h : HS) (Q : QX) : Prop where
  run : ∀ code, lowerC P n code = some c → ∀ φ a w, TR φ (toSF n e) a → HR base φ h.sh w → code.wp P (XPost base n k φ h w a.defers Q) a w
structure XR (P : Program) (base n k : Nat) (l : List LOp) (e : Env) (h : HS) (Q : QX) : Prop where
  run : ∀ ops lo, lowerL P n ops lo = some l → ∀ φ a w, TR φ (toSF n e) a → HR base φ h.sh w → ∀ R : Exit → Act → World → Prop, (∀ ex a' w', XPost base n k φ h w a.defers Q ex a' w' → R ex a' w') → wpList P ops R lo a w
section rules
variable {P : Program} {base n k : Nat} {e : Env} {h : HS} {Q : QX}
def seqQ (P : Program) (base n k : Nat) (b : LC) (Q : QX) : QX := fun x e h => match x with
  | .normal => X P base n k b e h Q
  | x => Q x e h
def blockQ (id : Nat) (Q : QX) : QX := fun x e h => match x with
  | .exit j => if j = id then Q .normal e h else Q (.exit j) e h
  | x => Q x e h
theorem seqQ.normal {b : LC} (hx : X P base n k b e h Q) : seqQ P base n k b Q .normal e h := hx
theorem seqQ.ret {b : LC} (hx : Q .ret e h) : seqQ P base n k b Q .ret e h := hx
theorem seqQ.exit {b : LC} {id : Nat} (hx : Q (.exit id) e h) : seqQ P base n k b Q (.exit id) e h := hx
theorem blockQ.normal {id : Nat} (hx : Q .normal e h) : blockQ id Q .normal e h := hx
theorem blockQ.ret {id : Nat} (hx : Q .ret e h) : blockQ id Q .ret e h := hx
theorem blockQ.hit {id : Nat} (hx : Q .normal e h) : blockQ id Q (.exit id) e h := by unfold blockQ; simpa using hx
theorem blockQ.miss {id j : Nat} (hn : Nat.beq j id = false) (hx : Q (.exit j) e h) : blockQ id Q (.exit j) e h := by
  show (if j = id then _ else _ : Prop)
  rw [if_neg (fun e => by subst e; simp at hn)]; exact hx
theorem X.mono {c : LC} {Q' : QX} (hx : X P base n k c e h Q) (hq : ∀ x e h, Q x e h → Q' x e h) : X P base n k c e h Q' :=
  ⟨fun code hl φ a w ht hr => wp_mono (hx.run code hl φ a w ht hr) fun ex a' w' ⟨x, e', h', φ', p1, p⟩ => ⟨x, e', h', φ', hq _ _ _ p1, p⟩⟩
theorem X.skip (hq : Q .normal e h) : X P base n k .skip e h Q := ⟨fun code hl φ a w ht hr => by
  obtain rfl := lowerC_skip hl
  exact wp_skip ⟨.normal, e, h, φ, hq, rfl, ht, rfl, hr, Mo.refl _ _ _ _⟩⟩
theorem X.ret (hq : Q .ret e h) : X P base n k .ret e h Q := ⟨fun code hl φ a w ht hr => by
  obtain rfl := lowerC_ret hl
  exact wp_ret ⟨.ret, e, h, φ, hq, rfl, ht, rfl, hr, Mo.refl _ _ _ _⟩⟩
theorem X.exit {id : Nat} (hq : Q (.exit id) e h) : X P base n k (.exit id) e h Q := ⟨fun code hl φ a w ht hr => by
  obtain rfl := lowerC_exit hl
  exact wp_exit ⟨.exit id, e, h, φ, hq, rfl, ht, rfl, hr, Mo.refl _ _ _ _⟩⟩
theorem X.seq {a b : LC} (hx : X P base n k a e h (seqQ P base n k b Q)) : X P base n k (.seq a b) e h Q := ⟨fun code hl φ ac w ht hr => by
  obtain ⟨x, y, rfl, hl1, hl2⟩ := lowerC_seq hl
  refine wp_seq (wp_mono (hx.run x hl1 φ ac w ht hr) fun ex a' w' hp => ?_)
  obtain ⟨z, e', h', φ', p1, rfl, p3, p4, p5, p6⟩ := hp
  cases z with
  | normal => exact wp_mono (X.run p1 y hl2 φ' a' w' p3 p5) fun ex a2 w2 hp => by rw [p4] at hp; exact hp.of p6
  | ret => exact ⟨.ret, e', h', φ', p1, rfl, p3, p4, p5, p6⟩
  | exit id => exact ⟨.exit id, e', h', φ', p1, rfl, p3, p4, p5, p6⟩⟩
theorem X.block {id : Nat} {a : LC} (hx : X P base n k a e h (blockQ id Q)) : X P base n k (.block id a) e h Q := ⟨fun code hl φ ac w ht hr => by
  obtain ⟨x, rfl, hl1⟩ := lowerC_block hl
  refine wp_block (wp_mono (hx.run x hl1 φ ac w ht hr) fun ex a' w' hp => ?_)
  obtain ⟨z, e', h', φ', p1, rfl, p⟩ := hp
  cases z with
  | normal => exact ⟨.normal, e', h', φ', p1, rfl, p⟩
  | ret => exact ⟨.ret, e', h', φ', p1, rfl, p⟩
  | exit j =>
    show (if j = id then _ else _ : Prop)
    unfold blockQ at p1
    simp only at p1
    split at p1
    · rename_i hj; rw [if_pos hj]; exact ⟨.normal, e', h', φ', p1, rfl, p⟩
    · rename_i hj; rw [if_neg hj]; exact ⟨.exit j, e', h', φ', p1, rfl, p⟩⟩
/-- A flag. -/
def isB (t : Bool) (v : XV) : Prop := v = .c (.p (.bool t)) ∨ v = .c (.p (.bs t))
theorem isB.sv {t : Bool} {v : XV} (h : isB t v) : v.sv = .c (.bool t) := by rcases h with rfl | rfl <;> rfl
theorem X.cond' {x : LX} {a b : LC} {t : Bool} {v : XV} (hx : xev e x = some v) (hv : isB t v) (ht : t = true → X P base n k a e h Q) (hf : t = false → X P base n k b e h Q) : X P base n k (.cond x a b) e h Q := ⟨fun code hl φ ac w htr hr => by
  obtain ⟨o, p, q, rfl, hl0, hl1, hl2⟩ := lowerC_cond hl
  have h1 := xev_ev (n := n) hl0 hx
  rw [hv.sv] at h1
  have := ev_sound htr h1
  cases t with
  | true => exact wp_cond_true this ((ht rfl).run p hl1 φ ac w htr hr)
  | false => exact wp_cond_false this ((hf rfl).run q hl2 φ ac w htr hr)⟩
theorem X.cond_t {x : LX} {a b : LC} (hx : xev e x = some (.c (.p (.bool true)))) (ht : X P base n k a e h Q) : X P base n k (.cond x a b) e h Q := X.cond' hx (.inl rfl) (fun _ => ht) (fun h => by cases h)
theorem X.cond_f {x : LX} {a b : LC} (hx : xev e x = some (.c (.p (.bool false)))) (hf : X P base n k b e h Q) : X P base n k (.cond x a b) e h Q := X.cond' hx (.inl rfl) (fun h => by cases h) (fun _ => hf)
theorem X.cond {x : LX} {a b : LC} {t : Bool} (hx : xev e x = some (.c (.p (.bs t)))) (ht : t = true → X P base n k a e h Q) (hf : t = false → X P base n k b e h Q) : X P base n k (.cond x a b) e h Q := X.cond' hx (.inr rfl) ht hf
theorem X.cond_d {x : LX} {a b : LC} {p : Prop} [Decidable p] (hx : xev e x = some (.c (.p (.bs (decide p))))) (ht : p → X P base n k a e h Q) (hf : ¬ p → X P base n k b e h Q) : X P base n k (.cond x a b) e h Q :=
  X.cond hx (fun h => ht (of_decide_eq_true h)) (fun h => hf (of_decide_eq_false h))
theorem X.cond_n {x : LX} {a b : LC} {p : Prop} [Decidable p] (hx : xev e x = some (.c (.p (.bs (!decide p))))) (ht : ¬ p → X P base n k a e h Q) (hf : p → X P base n k b e h Q) : X P base n k (.cond x a b) e h Q :=
  X.cond hx (fun h => ht (by simpa using h)) (fun h => hf (by simpa using h))
/-- Where a loop's round begins. -/
def wpHead (P : Program) (c : Code) (R : Exit → Act → World → Prop) (a : Act) (w : World) : Prop :=
  ∀ (b : Frame) (k : List Item) (cs : List Frame), ∃ e a' w', R e a' w' ∧ Arrives P (lone (b.at a (.code c :: .inLoop c :: k)) cs w) b k cs e a' w'
theorem wp_of_head {c : Code} {R : Exit → Act → World → Prop} {a : Act} {w : World} (hx : wpHead P c R a w) : (Code.loop c).wp P R a w := by
  intro b k cs
  obtain ⟨e, a', w', hq, ha⟩ := hx b k cs
  exact ⟨e, a', w', hq, .of_steps (.one step_loop) ha⟩
theorem wpHead_round {c : Code} {R : Exit → Act → World → Prop} {a : Act} {w : World} (hx : c.wp P (Exit.then (wpHead P c R) R) a w) : wpHead P c R a w := by
  intro b k cs
  obtain ⟨e, a1, w1, hq, ha⟩ := hx b (.inLoop c :: k) cs
  cases e with
  | normal =>
    obtain ⟨e2, a2, w2, hq2, ha2⟩ := hq b k cs
    exact ⟨e2, a2, w2, hq2, .of_steps (Steps.trans ha (.one step_inLoop)) ha2⟩
  | _ => exact ⟨_, a1, w1, hq, .pass (x := .inLoop c) rfl (fun _ _ => .inl (by simp)) ha⟩
theorem wpHead_mono {c : Code} {R R' : Exit → Act → World → Prop} {a : Act} {w : World} (hx : wpHead P c R a w) (hq : ∀ e a w, R e a w → R' e a w) : wpHead P c R' a w := fun b k cs =>
  let ⟨e, a', w', q, r⟩ := hx b k cs
  ⟨e, a', w', hq _ _ _ q, r⟩
/-- The loop of c goes on, and ends, and so. -/
structure XH (P : Program) (base n k : Nat) (c : LC) (e : Env) (h : HS) (Q : QX) : Prop where
  run : ∀ code, lowerC P n code = some c → ∀ φ a w, TR φ (toSF n e) a → HR base φ h.sh w → wpHead P code (XPost base n k φ h w a.defers Q) a w
def loopQ (P : Program) (base n k : Nat) (b : LC) (Q : QX) : QX := fun x e h => match x with
  | .normal => XH P base n k b e h Q
  | x => Q x e h
theorem loopQ.normal {b : LC} (hx : XH P base n k b e h Q) : loopQ P base n k b Q .normal e h := hx
theorem loopQ.ret {b : LC} (hx : Q .ret e h) : loopQ P base n k b Q .ret e h := hx
theorem loopQ.exit {b : LC} {id : Nat} (hx : Q (.exit id) e h) : loopQ P base n k b Q (.exit id) e h := hx
theorem X.loop {a : LC} (hx : XH P base n k a e h Q) : X P base n k (.loop a) e h Q := ⟨fun code hl φ ac w ht hr => by
  obtain ⟨x, rfl, hl1⟩ := lowerC_loop hl
  exact wp_of_head (hx.run x hl1 φ ac w ht hr)⟩
theorem XH.round {a : LC} (hx : X P base n k a e h (loopQ P base n k a Q)) : XH P base n k a e h Q := ⟨fun x hl1 φ ac w ht hr => by
  refine wpHead_round (wp_mono (hx.run x hl1 φ ac w ht hr) fun ex a' w' hp => ?_)
  obtain ⟨z, e', h', φ', p1, rfl, p3, p4, p5, p6⟩ := hp
  cases z with
  | normal => exact wpHead_mono (XH.run p1 x hl1 φ' a' w' p3 p5) fun ex a2 w2 hp => by rw [p4] at hp; exact hp.of p6
  | ret => exact ⟨.ret, e', h', φ', p1, rfl, p3, p4, p5, p6⟩
  | exit id => exact ⟨.exit id, e', h', φ', p1, rfl, p3, p4, p5, p6⟩⟩
theorem XH.mono {c : LC} {Q' : QX} (hx : XH P base n k c e h Q) (hq : ∀ x e h, Q x e h → Q' x e h) : XH P base n k c e h Q' :=
  ⟨fun code hl φ a w ht hr => wpHead_mono (hx.run code hl φ a w ht hr) fun ex a' w' ⟨x, e', h', φ', p1, p⟩ => ⟨x, e', h', φ', hq _ _ _ p1, p⟩⟩
theorem X.reg {id : Nat} {l : List LOp} (hx : XR P base n k l e h Q) : X P base n k (.reg id l) e h Q := ⟨fun code hl φ a w ht hr => by
  obtain ⟨ops, rfl, hl1⟩ := lowerC_reg hl
  exact wp_region_list (hx.run ops ops.toList hl1 φ a w ht hr _ fun _ _ _ h => h)⟩
theorem XR.nil (hq : Q .normal e h) : XR P base n k [] e h Q := ⟨fun ops lo hl φ a w ht hr R hR => by
  obtain rfl := lowerL_nil hl
  exact hR _ _ _ ⟨.normal, e, h, φ, hq, rfl, ht, rfl, hr, Mo.refl _ _ _ _⟩⟩
theorem noCall (P : Program) (base : Nat) : CallOK P base (fun _ _ _ => none) := fun _ _ _ _ _ h => by cases h
/-- A step that goes well with some way of calls. -/
theorem XR.step {g : Option (Nat × Bool)} {d : Option Nat} {lk : LK} {l : List LOp} {v : XV} {h' : HS} (call : FuncId → List SV → SH → Option (SV × SH)) (hc : CallOK P base call)
    (hw : ∀ ops o, lowG ops o.guard = some g → wantedS ops (toSF n e) o = some true) (ho : ∀ o : Oper, Lw P o.op lk → Sim.step P call (toSF n e) h.sh o = some (v.sv, h'.sh)) (hx : XR P base n k l (push d v e) h' Q) :
    XR P base n k (⟨g, d, lk⟩ :: l) e h Q := ⟨fun ops lo hl φ a w ht hr R hR => by
  obtain ⟨o, r, rfl, h1, h2⟩ := lowerL_cons hl
  obtain ⟨h3, h4, h5, h6⟩ := lowerOp_eq h1
  unfold wpList
  rw [if_pos (wanted_sound ht (hw ops o h4))]
  left
  refine step_sound hc ht hr (ho o h5) fun v' w' φ' hv hr' hm => ?_
  have ht' := (ht.mono hm.le).put hv o.dst
  rw [push_sf h3] at ht'
  rw [h6] at ht' ⊢
  refine hx.run ops r h2 φ' _ w' ht' hr' R fun ex a2 w2 hp => hR _ _ _ ?_
  rw [put_defers] at hp
  exact hp.of (Mo.of hm)⟩
theorem XR.op {d : Option Nat} {lk : LK} {l : List LOp} {v : XV} {h' : HS} (ho : SOp P n lk e h v h') (hx : XR P base n k l (push d v e) h' Q) : XR P base n k (⟨none, d, lk⟩ :: l) e h Q :=
  XR.step (fun _ _ _ => none) (noCall P base) (fun ops o hg => by
    unfold lowG at hg
    split at hg
    · rename_i h1; unfold wantedS; rw [h1]
    · repeat' split at hg
      all_goals simp at hg) (fun o hl => ho.run o _ hl) hx
theorem wanted_of {ops : Array Oper} {o : Oper} {s : Nat} {w : Bool} {v : XV} (hg : lowG ops o.guard = some (some (s, w))) (hv : look e s = some v) : wantedS ops (toSF n e) o = match v.sv with
    | .c (.bool b) => some (b == w)
    | .tup _ => some false
    | _ => none := by
  unfold lowG at hg
  split at hg
  · simp at hg
  · rename_i j w' hgd
    split at hg
    · rename_i p hp
      split at hg
      · rename_i d hd
        simp only [Option.some.injEq, Prod.mk.injEq] at hg
        obtain ⟨rfl, rfl⟩ := hg
        unfold wantedS
        simp only [hgd, hp, hd, ev, get_toSF, hv, Option.map_some]
        generalize v.sv = u
        cases u with
        | c x => cases x <;> rfl
        | agg l => rfl
        | tup l => rfl
      · simp at hg
    · simp at hg
theorem XR.opG {s : Nat} {g : Bool} {d : Option Nat} {lk : LK} {l : List LOp} {v : XV} {h' : HS} (hg : look e s = some (.c (.p (.bool g)))) (ho : SOp P n lk e h v h') (hx : XR P base n k l (push d v e) h' Q) : XR P base n k (⟨some (s, g), d, lk⟩ :: l) e h Q :=
  XR.step (fun _ _ _ => none) (noCall P base) (fun ops o hg' => by rw [wanted_of hg' hg]; simp [XV.sv, XC.sc, PC.sc]) (fun o hl => ho.run o _ hl) hx
theorem XR.out {s : Nat} {g : Bool} {d : Option Nat} {lk : LK} {l : List LOp} (hw : ∀ ops o, lowG ops o.guard = some (some (s, g)) → wantedS ops (toSF n e) o = some false) (hx : XR P base n k l (push d (.tup []) e) h Q) : XR P base n k (⟨some (s, g), d, lk⟩ :: l) e h Q := ⟨fun ops lo hl φ a w ht hr R hR => by
  obtain ⟨o, r, rfl, h1, h2⟩ := lowerL_cons hl
  obtain ⟨h3, h4, h5, h6⟩ := lowerOp_eq h1
  unfold wpList
  rw [if_neg (by rw [wanted_sound ht (hw ops o h4)]; simp)]
  have ht' := ht.put (VR.undef φ) o.dst
  rw [show (SV.tup []) = (XV.tup []).sv by simp [XV.sv, XV.svs], push_sf h3] at ht'
  rw [h6] at ht' ⊢
  refine hx.run ops r h2 φ _ w ht' hr R fun ex a2 w2 hp => hR _ _ _ ?_
  rw [put_defers] at hp
  exact hp⟩
/-- An operation whose guard says no. -/
theorem XR.opN {s : Nat} {g b : Bool} {d : Option Nat} {lk : LK} {l : List LOp} (hg : look e s = some (.c (.p (.bool b)))) (hb : b = !g) (hx : XR P base n k l (push d (.tup []) e) h Q) : XR P base n k (⟨some (s, g), d, lk⟩ :: l) e h Q :=
  XR.out (fun ops o hg' => by rw [wanted_of hg' hg, hb]; cases g <;> rfl) hx
/-- An operation whose guard was itself left out. -/
theorem XR.opU {s : Nat} {g : Bool} {d : Option Nat} {lk : LK} {l : List LOp} {q : List XV} (hg : look e s = some (.tup q)) (hx : XR P base n k l (push d (.tup []) e) h Q) : XR P base n k (⟨some (s, g), d, lk⟩ :: l) e h Q :=
  XR.out (fun ops o hg' => by rw [wanted_of hg' hg]; simp [XV.sv]) hx
/-- A guard is decided. -/
theorem XR.cases {s : Nat} {b : Bool} {l : List LOp} (hg : look e s = some (.c (.p (.bool b)))) (ht : b = true → XR P base n k l e h Q) (hf : b = false → XR P base n k l e h Q) : XR P base n k l e h Q := by
  cases b with
  | true => exact ht rfl
  | false => exact hf rfl
end rules
end Go.Proofs.Ytgaaffanoegbhaa.Sym
