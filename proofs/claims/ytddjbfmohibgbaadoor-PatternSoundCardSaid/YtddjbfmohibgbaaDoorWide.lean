/- Patterns whose counts are wider: what the law of soundness asks of them; pieces of an own row that get other fields. -/
import Derived.Test.YtddjbfmohibgbaaDoorSamplesW
namespace Go.Proofs.YtddjbfmohibgbaaDoor
open Go.RowKit

theorem wide_snoc : ∀ {p q : List Pc} {n : Int} {x : Pc}, WideP p q → 0 ≤ n → WideP (p ++ [widen n x]) (q ++ [x])
  | [], [], n, _, _, hn => ⟨⟨n, hn, rfl⟩, trivial⟩
  | _ :: _, _ :: _, _, _, h, hn => ⟨h.1, wide_snoc h.2 hn⟩
  | [], _ :: _, _, _, h, _ => h.elim
  | _ :: _, [], _, _, h, _ => h.elim
theorem wide_len : ∀ {p q : List Pc}, WideP p q → p.length = q.length
  | [], [], _ => rfl
  | _ :: _, _ :: _, h => by rw [List.length_cons, List.length_cons, wide_len h.2]
  | [], _ :: _, h => h.elim
  | _ :: _, [], h => h.elim
/-- The numbers of a pattern as the makers make it. -/
def Small (x : Pc) : Prop := 0 ≤ x.c ∧ x.c ≤ 7 ∧ 0 ≤ x.l ∧ x.l ≤ 200 ∧ 0 ≤ x.m ∧ x.m ≤ 200 ∧ x.t.length ≤ 15
theorem small_made {x : Pc} (h : MadeP 15 x) : Small x := by
  obtain ⟨h1, h2⟩ := h
  rcases h1 with ⟨h1, _⟩ | h1
  · obtain ⟨q1, q2, q3, q4, q5, q6, q7⟩ := runB_iff.1 h1
    exact ⟨by omega, by omega, by omega, by omega, by omega, by omega, h2⟩
  · obtain ⟨q1, q2, q3, -⟩ := plainB_iff.1 h1
    exact ⟨by omega, by omega, by omega, by omega, by omega, by omega, h2⟩
theorem small_widen {x : Pc} {n : Int} (h : Small x) (hn : 0 ≤ n) : Small (widen n x) := by
  obtain ⟨h1, h2, h3, h4, h5, h6, h7⟩ := h
  unfold widen
  split
  · exact ⟨h1, h2, h3, h4, h5, h6, h7⟩
  · refine ⟨?_, ?_, ?_, ?_, ?_, ?_, h7⟩
    all_goals dsimp only
    all_goals first | omega | (split <;> omega)
theorem wide_small : ∀ {p q : List Pc}, WideP p q → (∀ x ∈ q, Small x) → ∀ x ∈ p, Small x
  | [], [], _, _, x, hx => by cases hx
  | _ :: _, b :: _, h, hq, x, hx => by
    obtain ⟨⟨n, hn, rfl⟩, h2⟩ := h
    rcases List.mem_cons.1 hx with rfl | hx
    · exact small_widen (hq b List.mem_cons_self) hn
    · exact wide_small h2 (fun y hy => hq y (List.mem_cons_of_mem _ hy)) x hx
  | [], _ :: _, h, _, _, _ => h.elim
  | _ :: _, [], h, _, _, _ => h.elim
theorem small_fair {p : List Pc} (hl : p.length ≤ 5) (h : ∀ x ∈ p, Small x) : Fair p := ⟨by omega, fun x hx => by
  obtain ⟨h1, h2, h3, h4, h5, h6, h7⟩ := h x hx
  exact ⟨⟨by omega, by omega⟩, ⟨by omega, by omega⟩, ⟨by omega, by omega⟩, by omega⟩⟩

theorem cellsP_set : ∀ (p : List Pc) (i j : Nat) (h : i < p.length) (_ : j < 4) (u : Value) (x : Pc), pcCells x = (pcCells p[i]).set j u → (cellsP p).set (i * 4 + j) u = cellsP (p.set i x)
  | a :: p, 0, j, _, hj, u, x, hx => by
    rw [cellsP_cons, List.set_cons_zero, cellsP_cons, hx, Nat.zero_mul, Nat.zero_add, List.set_append_left _ _ (by simp [pcCells]; omega)]
    rfl
  | a :: p, i + 1, j, h, hj, u, x, hx => by
    rw [cellsP_cons, List.set_cons_succ, cellsP_cons, List.set_append_right _ _ (by simp [pcCells]; omega)]
    have e : (i + 1) * 4 + j - (pcCells a).length = i * 4 + j := by simp [pcCells]; omega
    rw [e, cellsP_set p i j (by simpa using h) hj u x hx]

/-- A piece of an own row gets another field. -/
theorem OwnP.field {w : World} {g cap n : Nat} {p : List Pc} (h : OwnP w (.slice (some ⟨g, 0, none⟩) n cap) p) {i j : Nat} (hi : i < p.length) (hj : j < 4) (u : Value) (x : Pc) (hx : pcCells x = (pcCells p[i]).set j u) :
    OwnP (w.setCell ⟨g, i * 4 + j, none⟩ u) (.slice (some ⟨g, 0, none⟩) n cap) (p.set i x) := by
  have hn : n = p.length := by
    obtain ⟨ao, cap', e⟩ := h.form
    simp only [Value.slice.injEq] at e
    exact e.2.1
  subst hn
  have h1 := (World.ownsRow.stored h (i * 4 + j) u).1
  unfold OwnP
  rw [← cellsP_set p i j hi hj u x hx, List.length_set]
  exact h1

/-- append of an own row's pieces to an own row, as one operation of a list. -/
theorem wpList_append_pcs {ops : Array Oper} {rest : List Oper} {o : Oper} {a : Act} {w : World} {Q : Exit → Act → World → Prop} (hgd : o.guard = none) (s x : Operand)
    (ho : o.op = .call { callee := .builtin .append, args := #[s, x], argTypes := #[23, 23] }) (v : Value) (hs : a.eval s = v) (hown : OwnP w v []) (vx : Value) (q : List Pc) (hx : a.eval x = vx) (hq : OwnP w vx q) (hl : q.length ≤ 10000)
    (h : ∀ v' w', OwnP w' v' q → Only (Blk v) w w' → (∀ k, Blk v' k → Blk v k ∨ w.heap.size ≤ k) → wpList Tryd.prog ops Q rest (a.put o.dst v') w') : wpList Tryd.prog ops Q (o :: rest) a w := by
  obtain ⟨i0, hi, hz0, hz1, hz2⟩ := info_parts Tryd.info31
  rcases hq.2 with ⟨rfl, hq0⟩ | ⟨g, cap, cur, rfl, _, hg, _⟩
  · have hq0 := List.eq_nil_of_length_eq_zero hq0
    subst hq0
    refine wpList_append_own_none hgd s x 23 ho 0 31 i0 4 Tryd.underlying23 hi v 0 [] hs hown hx (h v w hown (Only.refl _ _) (fun k hk => .inl hk))
  · refine wpList_append_own_f hgd s x 23 ho 31 i0 _ 4 40 Tryd.underlying23 hi hz0 hz1 hz2 rfl (by decide) v 0 [] hs hown ⟨g, 0, none⟩ q.length cap (cellsP q) hx (length_cellsP q) ?_ ?_ ?_ ?_ ?_
    · intro j u hj
      rw [addr_add0]
      have hlt : j < (cellsP q).length := (List.getElem?_eq_some_iff.1 hj).1
      rw [length_cellsP] at hlt
      exact (World.ownsRow.cellAt hq j (by omega)).trans hj
    · intro u hu
      obtain ⟨y, _, hy⟩ := List.mem_flatMap.1 hu
      simp only [pcCells, List.mem_cons, List.not_mem_nil, or_false] at hy
      rcases hy with rfl | rfl | rfl | rfl <;> rfl
    · unfold maxLen; omega
    · omega
    · intro v' w' h1 h2 h3 _
      refine h v' w' ?_ (Only.grown h2 (fun k hk => hk)) h3
      unfold OwnP
      simpa using h1

end Go.Proofs.YtddjbfmohibgbaaDoor
