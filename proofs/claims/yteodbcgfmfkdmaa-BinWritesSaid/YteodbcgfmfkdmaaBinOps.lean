/- Numbers, texts and flags to write: how they come in, and what they are as bytes. -/
import Derived.Test.YteodbcgfmfkdmaaBinCut
import Derived.Test.YteodbcgfmfkdmaaOpen
namespace Go.Proofs.Yteodbcgfmfkdmaa
open Go.RowKit

structure OpD where
  kind : Int
  n : Int
  vb : Value
  b : List Int
  f : Bool
def OpD.cells (o : OpD) : List Value := [.int .i64 o.kind, .int .i64 o.n, o.vb, .bool o.f]
def Rdops (w : World) (N : Nat → Prop) (v : Value) (ops : List OpD) : Prop := Rd w N v ops.length 4 (ops.flatMap OpD.cells) ∧ ∀ o ∈ ops, InI64 o.n ∧ RdL w N o.vb o.b
theorem Rdops.keeps {w w' : World} {N N' : Nat → Prop} {v : Value} {ops : List OpD} (h : Rdops w N v ops) (hk : ∀ b, N b → b < w.heap.size → w'.heap[b]? = w.heap[b]? ∧ N' b) : Rdops w' N' v ops :=
  ⟨h.1.keeps hk, fun o ho => ⟨(h.2 o ho).1, (h.2 o ho).2.keeps hk⟩⟩
theorem Rdops.ext {S : List Nat} {w w' : World} {col col' : Col} {c : Nat} {v : Value} {ops : List OpD} (h : Rdops w (In col c) v ops) (hx : Ext S w col w' col') (hc : c ∉ S) : Rdops w' (In col' c) v ops :=
  h.keeps fun b hN hl => ⟨hx.block b hl (by rw [hN]; exact hc), by show col' b = c; rw [hx.col b hl]; exact hN⟩
theorem Rdops.zero {w : World} {N : Nat → Prop} {v : Value} {ops : List OpD} (h : Rdops w N v ops) : Rdops w (In (fun _ => 0) 0) v ops := h.keeps fun _ _ _ => ⟨rfl, rfl⟩
theorem flatMap_cells_get (ops : List OpD) (i k : Nat) (hi : i < ops.length) (hk : k < 4) : (ops.flatMap OpD.cells)[4 * i + k]? = (ops[i].cells)[k]? := by
  have h := flatten_get (css := ops.map OpD.cells) (s := 4) (by omega) (by intro c hc; obtain ⟨o, _, rfl⟩ := List.mem_map.1 hc; rfl) (4 * i + k)
  rw [List.flatMap_def, h, show (4 * i + k) / 4 = i by omega, show (4 * i + k) % 4 = k by omega]
  simp [hi]
theorem Rdops.get {w : World} {N : Nat → Prop} {v : Value} {ops : List OpD} (h : Rdops w N v ops) {i : Nat} (hi : i < ops.length) : ∃ b o cap, v = .slice (some ⟨b, o, none⟩) ops.length cap ∧ N b ∧ b < w.heap.size ∧ InI64 ops[i].n ∧ RdL w N ops[i].vb ops[i].b ∧
    w.cell? ⟨b, o + i * 4, none⟩ = some (.int .i64 ops[i].kind) ∧ w.cell? ⟨b, o + i * 4 + 1, none⟩ = some (.int .i64 ops[i].n) ∧ w.cell? ⟨b, o + i * 4 + 2, none⟩ = some ops[i].vb ∧ w.cell? ⟨b, o + i * 4 + 3, none⟩ = some (.bool ops[i].f) := by
  obtain ⟨b, o, cap, rfl, _, _, h3, h4, h5⟩ := h.1.pos (by omega)
  obtain ⟨g1, g2⟩ := h.2 ops[i] (List.getElem_mem hi)
  have key := fun k hk => flatMap_cells_get ops i k hi hk
  refine ⟨b, o, cap, rfl, h3, h4, g1, g2, ?_, ?_, ?_, ?_⟩
  · rw [Nat.mul_comm i 4]; exact h5 (4 * i) _ (key 0 (by omega))
  · rw [Nat.mul_comm i 4, Nat.add_assoc]; exact h5 (4 * i + 1) _ (key 1 (by omega))
  · rw [Nat.mul_comm i 4, Nat.add_assoc]; exact h5 (4 * i + 2) _ (key 2 (by omega))
  · rw [Nat.mul_comm i 4, Nat.add_assoc]; exact h5 (4 * i + 3) _ (key 3 (by omega))

theorem openL_ops {H : Type} {enc : TypeId × Value → H} {w : World} {base : Nat} {held : Bool} {fuel : Nat} {v : Value} {x : DataW H × List MemPlace}
    (h : DataW.trod enc Try.prog w base (fun _ => true) held fuel 37 [v] = some x) (hw : ∀ n ∈ x.1.weights Try.prog 37, n ≤ reachBytes) : ∃ ops, Rdops w (fun _ => True) v ops := by
  obtain ⟨css, hr, _, hel⟩ := openL_slice Try.underlying37 (s := 4) (by kernel_rfl) (by omega) (of_decide_eq_true (by kernel_rfl)) h hw
  have key : ∀ css : List (List Value), (∀ c ∈ css, ∃ o : OpD, c = o.cells ∧ InI64 o.n ∧ RdL w (fun _ => True) o.vb o.b) → ∃ ops : List OpD, css.flatten = ops.flatMap OpD.cells ∧ ops.length = css.length ∧ ∀ o ∈ ops, InI64 o.n ∧ RdL w (fun _ => True) o.vb o.b := by
    intro css
    induction css with
    | nil => intro _; exact ⟨[], rfl, rfl, by simp⟩
    | cons c css ih =>
      intro h
      obtain ⟨o, rfl, ho⟩ := h c (by simp)
      obtain ⟨ops, h1, h2, h3⟩ := ih fun c hc => h c (by simp [hc])
      refine ⟨o :: ops, by simp [h1], by simp [h2], ?_⟩
      intro x hx
      rcases List.mem_cons.1 hx with rfl | hx
      · exact ho
      · exact h3 x hx
  obtain ⟨ops, h1, h2, h3⟩ := key css fun c hc => by
    obtain ⟨hl, m, y, hy, hyw⟩ := hel c hc
    obtain ⟨_, hf⟩ := openL_struct Try.underlying42 hy hyw
    have c3 : Try.prog.cellsOf 3 = 1 := by kernel_rfl
    have c2 : Try.prog.cellsOf 2 = 1 := by kernel_rfl
    have c22 : Try.prog.cellsOf 22 = 1 := by kernel_rfl
    have c4 : Try.prog.cellsOf 4 = 1 := by kernel_rfl
    match c, hl with
    | [a0, a1, a2, a3], _ =>
      obtain ⟨m0, y0, t0, _⟩ := hf 0 _ rfl
      obtain ⟨m1, y1, t1, _⟩ := hf 1 _ rfl
      obtain ⟨m2, y2, t2, w2⟩ := hf 2 _ rfl
      obtain ⟨m3, y3, t3, _⟩ := hf 3 _ rfl
      simp [c3] at t0
      simp [c2] at t1
      simp [c22] at t2 w2
      simp [c4] at t3
      obtain ⟨q0, e0, _, _⟩ := DataW.trod_int Try.underlying3 t0
      obtain ⟨q1, e1, _, hq1⟩ := DataW.trod_int Try.underlying2 t1
      obtain ⟨q3, e3, _⟩ := DataW.trod_bool Try.underlying4 t3
      obtain ⟨xs, hxs⟩ := openL_bytes Try.underlying22 Try.underlying5 (by kernel_rfl) (of_decide_eq_true (by kernel_rfl)) t2 w2
      simp at e0 e1 e3
      subst e0 e1 e3
      exact ⟨⟨q0, q1, a2, xs, q3⟩, rfl, wf_i64 hq1, hxs⟩
  rw [h1, ← h2] at hr
  exact ⟨ops, hr, h3⟩

/-- What an operation writes. -/
def OpD.out (o : OpD) : List Int := if o.kind = 0 then numB o.n else if o.kind = 1 then textB (o.b.take 60) else flagB o.f
def outs (l : List OpD) : List Int := l.flatMap OpD.out
theorem outs_step {l : List OpD} {i : Nat} (h : i < l.length) : outs (l.take (i + 1)) = outs (l.take i) ++ (l[i]).out := by
  unfold outs; rw [List.take_succ_eq_append_getElem h, List.flatMap_append]; simp
theorem out_bytes (o : OpD) (h : Bytes o.b) : Bytes o.out := by
  unfold OpD.out
  split
  · exact numB_bytes _
  · split
    · exact textB_bytes (h.take _)
    · exact flagB_bytes _
theorem out_len (o : OpD) (h : InI64 o.n) : o.out.length ≤ 70 := by
  unfold OpD.out
  split
  · have := numB_len h.1 h.2; omega
  · split
    · have := textB_len (xs := o.b.take 60) (by simp; omega)
      simp at this; omega
    · simp [flagB]
theorem outs_len (l : List OpD) (h : ∀ o ∈ l, InI64 o.n) : (outs l).length ≤ 70 * l.length := by
  induction l with
  | nil => simp [outs]
  | cons o l ih =>
    have h1 := out_len o (h o (by simp))
    have h2 := ih fun x hx => h x (by simp [hx])
    simp [outs] at h2 ⊢; omega
end Go.Proofs.Yteodbcgfmfkdmaa
