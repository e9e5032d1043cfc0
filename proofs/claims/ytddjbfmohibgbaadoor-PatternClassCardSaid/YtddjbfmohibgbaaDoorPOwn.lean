/- Slices of pieces that a call itself makes: appended to, written. -/
import Derived.Test.YtddjbfmohibgbaaDoorPcs
import Derived.Laws.OwnMore
namespace Go.Proofs.YtddjbfmohibgbaaDoor
open Go.RowKit

theorem Tryd.info31 : (Tryd.prog.info? 31).map (fun i => (i.zero, i.size, i.bytes)) = some (some (.agg #[.int .i64 0, .int .i64 0, .int .i64 0, .string ⟨#[]⟩]), 4, 40) := by kernel_rfl

def pcCells (x : Pc) : List Value := [.int .i64 x.c, .int .i64 x.l, .int .i64 x.m, .string ⟨x.t.toArray⟩]
def cellsP (p : List Pc) : List Value := p.flatMap pcCells
theorem cellsP_snoc (p : List Pc) (x : Pc) : cellsP (p ++ [x]) = cellsP p ++ pcCells x := by simp [cellsP]
theorem cellsP_cons (x : Pc) (p : List Pc) : cellsP (x :: p) = pcCells x ++ cellsP p := rfl
theorem length_cellsP (p : List Pc) : (cellsP p).length = p.length * 4 := by
  induction p with
  | nil => rfl
  | cons x p ih => rw [cellsP_cons, List.length_append, ih, List.length_cons]; simp [pcCells]; omega
theorem cellsP_get : ∀ (p : List Pc) (i j : Nat) (h : i < p.length), j < 4 → (cellsP p)[i * 4 + j]? = (pcCells p[i])[j]?
  | x :: p, 0, j, _, hj => by
    rw [cellsP_cons, List.getElem?_append_left (by simp [pcCells]; omega)]
    simp
  | x :: p, i + 1, j, h, hj => by
    rw [cellsP_cons, List.getElem?_append_right (by simp [pcCells]; omega)]
    have e : (i + 1) * 4 + j - (pcCells x).length = i * 4 + j := by simp [pcCells]; omega
    rw [e, cellsP_get p i j (by simpa using h) hj]
    simp

/-- v is a slice of the call's own with the pieces p. -/
def OwnP (w : World) (v : Value) (p : List Pc) : Prop := w.ownsRow 0 31 4 v p.length (cellsP p)

theorem OwnP.nil (w : World) : OwnP w (.slice none 0 0) [] := World.ownsRow_nil w 0 31 4
theorem OwnP.other {S : Nat → Prop} {w w' : World} {v : Value} {p : List Pc} (h : OwnP w v p) (ho : Only S w w') (hn : ∀ k, Blk v k → ¬ S k) : OwnP w' v p := Own.other h ho hn
theorem OwnP.lt {w : World} {v : Value} {p : List Pc} (h : OwnP w v p) {k : Nat} (hk : Blk v k) : k < w.heap.size := Own.lt h hk
theorem OwnP.form {w : World} {v : Value} {p : List Pc} (h : OwnP w v p) : ∃ ao cap, v = .slice ao p.length cap := by
  obtain ⟨ao, cap, rfl, _⟩ := own_form h
  exact ⟨ao, cap, rfl⟩
theorem OwnP.pcAt {w : World} {g cap n : Nat} {p : List Pc} (h : OwnP w (.slice (some ⟨g, 0, none⟩) n cap) p) {i : Nat} (hi : i < p.length) : PcAt w g (i * 4) p[i] := by
  have hn : n = p.length := by
    obtain ⟨ao, cap', e⟩ := h.form
    simp only [Value.slice.injEq] at e
    exact e.2.1
  subst hn
  have hc := fun j hj => (World.ownsRow.cellAt h (i * 4 + j) (by omega)).trans (cellsP_get p i j hi hj)
  exact ⟨hc 0 (by omega), hc 1 (by omega), hc 2 (by omega), hc 3 (by omega)⟩
theorem OwnP.frozen {w : World} {g cap n : Nat} {p : List Pc} (h : OwnP w (.slice (some ⟨g, 0, none⟩) n cap) p) (j : Nat) : w.frozen? ⟨g, j, none⟩ = false := by
  have hn : n = p.length := by
    obtain ⟨ao, cap', e⟩ := h.form
    simp only [Value.slice.injEq] at e
    exact e.2.1
  subst hn
  exact World.ownsRow.frozenAt h j
theorem OwnP.pcs {w : World} {v : Value} {p : List Pc} (h : OwnP w v p) : Pcs w v p := by
  rcases Nat.eq_zero_or_pos p.length with h0 | h0
  · obtain ⟨ao, cap, rfl⟩ := h.form
    rw [h0]
    exact .inl ⟨List.eq_nil_of_length_eq_zero h0, ao, cap, rfl⟩
  · obtain ⟨g, cap, rfl, _, hg⟩ := own_form_pos h h0
    exact .inr ⟨h0, g, 0, cap, rfl, hg, fun i hi => by rw [Nat.zero_add]; exact h.pcAt hi⟩

/-- The last piece gets another text. -/
theorem OwnP.last {w : World} {g cap n : Nat} {p : List Pc} {x : Pc} (h : OwnP w (.slice (some ⟨g, 0, none⟩) n cap) (p ++ [x])) (t : List UInt8) :
    OwnP (w.setCell ⟨g, p.length * 4 + 3, none⟩ (.string ⟨t.toArray⟩)) (.slice (some ⟨g, 0, none⟩) n cap) (p ++ [⟨x.c, x.l, x.m, t⟩]) := by
  have hn : n = (p ++ [x]).length := by
    obtain ⟨ao, cap', e⟩ := h.form
    simp only [Value.slice.injEq] at e
    exact e.2.1
  subst hn
  have h1 := (World.ownsRow.stored h (p.length * 4 + 3) (.string ⟨t.toArray⟩)).1
  unfold OwnP
  have e : (cellsP (p ++ [x])).set (p.length * 4 + 3) (.string ⟨t.toArray⟩) = cellsP (p ++ [⟨x.c, x.l, x.m, t⟩]) := by
    rw [cellsP_snoc, cellsP_snoc, List.set_append_right _ _ (by rw [length_cellsP]; omega), length_cellsP, Nat.add_sub_cancel_left]
    rfl
  rw [← e]
  simpa using h1

/-- A piece's row, whole. -/
def PcRow (w : World) (b : Nat) (x : Pc) : Prop := w.heap[b]? = some (.cells #[.int .i64 x.c, .int .i64 x.l, .int .i64 x.m, .string ⟨x.t.toArray⟩] 31 (0, 0))

theorem PcRow.cells {w : World} {b : Nat} {x : Pc} (h : PcRow w b x) : PcAt w b 0 x ∧ w.frozen? ⟨b, 0, none⟩ = false ∧ w.frozen? ⟨b, 1, none⟩ = false ∧ w.frozen? ⟨b, 2, none⟩ = false ∧ w.frozen? ⟨b, 3, none⟩ = false := by
  unfold PcRow at h
  unfold PcAt
  simp [World.cell?, World.frozen?, h]
theorem PcRow.other {S : Nat → Prop} {w w' : World} {b : Nat} {x : Pc} (h : PcRow w b x) (ho : Only S w w') (hn : ¬ S b) : PcRow w' b x := (ho.block b (lt_of_heap h) hn).trans h
theorem PcRow.new (w : World) (x : Pc) : PcRow (w.alloc (.cells #[.int .i64 x.c, .int .i64 x.l, .int .i64 x.m, .string ⟨x.t.toArray⟩] 31)) w.heap.size x := heap_alloc_new w _

/-- append of one piece, as one operation of a list. -/
theorem wpList_append_pc {ops : Array Oper} {rest : List Oper} {o : Oper} {a : Act} {w : World} {Q : Exit → Act → World → Prop} (hgd : o.guard = none) (s x : Operand)
    (ho : o.op = .call { callee := .builtin .append, args := #[s, x], argTypes := #[23, 23] }) (v : Value) (p : List Pc) (hs : a.eval s = v) (hown : OwnP w v p) (g : Nat) (y : Pc) (hx : a.eval x = .slice (some ⟨g, 0, none⟩) 1 1) (hg : PcRow w g y) (hl : p.length ≤ 10000)
    (h : ∀ v' w', OwnP w' v' (p ++ [y]) → Only (Blk v) w w' → (∀ k, Blk v' k → Blk v k ∨ w.heap.size ≤ k) → wpList Tryd.prog ops Q rest (a.put o.dst v') w') : wpList Tryd.prog ops Q (o :: rest) a w := by
  obtain ⟨i0, hi, hz0, hz1, hz2⟩ := info_parts Tryd.info31
  obtain ⟨⟨c0, c1, c2, c3⟩, -⟩ := hg.cells
  refine wpList_append_own_f hgd s x 23 ho 31 i0 _ 4 40 Tryd.underlying23 hi hz0 hz1 hz2 rfl (by decide) v p.length (cellsP p) hs hown ⟨g, 0, none⟩ 1 1 (pcCells y) hx rfl ?_ ?_ ?_ ?_ ?_
  · intro j u hj
    rw [addr_add0]
    match j, hj with
    | 0, hj => exact c0.trans hj
    | 1, hj => exact c1.trans hj
    | 2, hj => exact c2.trans hj
    | 3, hj => exact c3.trans hj
  · intro u hu
    simp only [pcCells, List.mem_cons, List.not_mem_nil, or_false] at hu
    rcases hu with rfl | rfl | rfl | rfl <;> rfl
  · unfold maxLen; omega
  · omega
  · intro v' w' h1 h2 h3 _
    refine h v' w' ?_ (Only.grown h2 (fun k hk => hk)) h3
    unfold OwnP
    rw [cellsP_snoc, List.length_append]
    exact h1

end Go.Proofs.YtddjbfmohibgbaaDoor
