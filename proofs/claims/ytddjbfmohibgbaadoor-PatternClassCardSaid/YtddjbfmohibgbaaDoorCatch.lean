/- The deferred function of Parse: it catches a mistake, or finds nothing. -/
import Derived.Test.YtddjbfmohibgbaaDoorPieces
import Derived.Defers
import Derived.Recover
namespace Go.Proofs.YtddjbfmohibgbaaDoor
open Go.RowKit

def misV (a e : Nat) : Value := .agg #[.int .i64 (a : Int), .int .i64 (e : Int)]

theorem ta_nil (w : World) : (Instr.typeAssert .nilIface 20 84 true).run Tryd.prog w = .ok (.tuple #[.agg #[.int .i64 0, .int .i64 0], .bool false]) w := by kernel_rfl
theorem ta_mis (a e : Nat) (w : World) : (Instr.typeAssert (.iface 84 (.agg #[.int .i64 (a : Int), .int .i64 (e : Int)])) 20 84 true).run Tryd.prog w = .ok (.tuple #[.agg #[.int .i64 (a : Int), .int .i64 (e : Int)], .bool true]) w := by kernel_rfl

set_option maxRecDepth 100000 in
set_option maxHeartbeats 1000000 in
theorem catch_idle (bp ba be : Nat) (w : World) :
    CallsD Tryd.prog 59 #[.pointer (some ⟨bp, 0, none⟩), .pointer (some ⟨ba, 0, none⟩), .pointer (some ⟨be, 0, none⟩)] .returning w fun e u' w' => e = .returned (.tuple #[]) ∧ u' = .returning ∧ Only Nob w w' := by
  refine callsD_of_wpS Tryd.func59 rfl fun c₀ cs hu => ?_
  have ta := ta_nil
  simp only [Tryd.ntmps59, List.size_toArray, List.length_cons, List.length_nil, Nat.reduceAdd, Nat.reduceSub, Array.replicate_succ, Array.replicate_zero, List.push_toArray, List.append_toArray, List.nil_append, List.cons_append]
  apply wpS_seq
  apply wpS_region
  simp [wpOpsS, go_sem, recoverD, hu, ta, Exit.thenS]
  refine wpS_of_wp ?_
  have oA : Only Nob w (w.alloc (.cells #[.int .i64 0, .int .i64 0] 84)) := Only.alloc _ _ _
  go_wp2
  refine ⟨rfl, .returning, ?_, .tuple #[], ?_, rfl, rfl, oA⟩
  · cases c₀
    simp only at hu
    subst hu
    rfl
  · exact results_none rfl _ _ _

/-- The world in which a mistake is unpacked. -/
def misW (w : World) (a e : Nat) : World := (w.alloc (.cells #[.int .i64 (a : Int), .int .i64 (e : Int)] 84))

set_option maxRecDepth 100000 in
set_option maxHeartbeats 2000000 in
theorem catch_mis (bp ba be a e : Nat) (v0 v1 v2 : Value) (older : List PanicEntry) (w : World) (h0 : Boxed w bp 23 v0) (h1 : Boxed w ba 3 v1) (h2 : Boxed w be 27 v2) (n1 : bp ≠ ba) (n2 : bp ≠ be) (n3 : ba ≠ be) :
    CallsD Tryd.prog 59 #[.pointer (some ⟨bp, 0, none⟩), .pointer (some ⟨ba, 0, none⟩), .pointer (some ⟨be, 0, none⟩)] (.panicking ({ v := .iface 84 (.agg #[.int .i64 (a : Int), .int .i64 (e : Int)]), recovered := false } :: older)) w fun en u' w' =>
      en = .returned (.tuple #[]) ∧ u' = .panicking ({ v := .iface 84 (.agg #[.int .i64 (a : Int), .int .i64 (e : Int)]), recovered := true } :: older) ∧
      Boxed w' bp 23 (.slice none 0 0) ∧ Boxed w' ba 3 (.int .i64 (a : Int)) ∧ Boxed w' be 27 (.int .i64 (e : Int)) ∧ Only (fun i => i = bp ∨ i = ba ∨ i = be) w w' := by
  refine callsD_of_wpS Tryd.func59 rfl fun c₀ cs hu => ?_
  have ta := ta_mis a e
  simp only [Tryd.ntmps59, List.size_toArray, List.length_cons, List.length_nil, Nat.reduceAdd, Nat.reduceSub, Array.replicate_succ, Array.replicate_zero, List.push_toArray, List.append_toArray, List.nil_append, List.cons_append]
  apply wpS_seq
  apply wpS_region
  simp [wpOpsS, go_sem, recoverD, hu, ta, Exit.thenS]
  refine wpS_of_wp ?_
  have oA : Only Nob w (w.alloc (.cells #[.int .i64 (a : Int), .int .i64 (e : Int)] 84)) := Only.alloc _ _ _
  have k0 := h0.alloc (.cells #[.int .i64 (a : Int), .int .i64 (e : Int)] 84)
  have k1 := h1.alloc (.cells #[.int .i64 (a : Int), .int .i64 (e : Int)] 84)
  have k2 := h2.alloc (.cells #[.int .i64 (a : Int), .int .i64 (e : Int)] 84)
  have m0 : (w.alloc (.cells #[.int .i64 (a : Int), .int .i64 (e : Int)] 84)).cell? ⟨w.heap.size, 0, none⟩ = some (.int .i64 (a : Int)) := by simp
  have m1 : (w.alloc (.cells #[.int .i64 (a : Int), .int .i64 (e : Int)] 84)).cell? ⟨w.heap.size, 1, none⟩ = some (.int .i64 (e : Int)) := by simp
  have p0 : bp ≠ w.heap.size := by have := h0.lt; omega
  have p1 : ba ≠ w.heap.size := by have := h1.lt; omega
  have p2 : be ≠ w.heap.size := by have := h2.lt; omega
  generalize w.alloc (.cells #[.int .i64 (a : Int), .int .i64 (e : Int)] 84) = w1 at *
  generalize w.heap.size = bm at *
  have K := Lib.hid (And.intro k0 (And.intro k1 k2))
  have c0 := k0.cell
  have c1 := k1.cell
  have c2 := k2.cell
  have f0 := k0.frozen
  have f1 := k1.frozen
  have f2 := k2.frozen
  clear k0 k1 k2 h0 h1 h2 ta
  go_wp2_with fail
  go_region
  go_wp2
  obtain ⟨k0, k1, k2⟩ := K.out
  have bx : ∀ {W W' : World} {B : Nat} {t : TypeId} {v : Value}, Boxed W B t v → Only (Oth B) W W' → Boxed W' B t v := fun h o => (o.block _ h.lt (fun h => h rfl)).trans h
  have st : ∀ (W : World) (B C : Nat) (v : Value), C ≠ B → Only (Oth B) W (W.setCell ⟨C, 0, none⟩ v) := fun W B C v h => Only.setCell (S := Oth B) W ⟨C, 0, none⟩ v h
  refine ⟨rfl, _, rfl, .tuple #[], results_none rfl _ _ _, rfl, rfl, ?_, ?_, ?_, ?_⟩
  · exact bx (bx (k0.set (.slice none 0 0)) (st _ _ _ (.int .i64 (a : Int)) n1.symm)) ((st _ _ _ (.int .i64 (e : Int)) n2.symm).trans (Only.drew _ _) (fun _ _ h => h))
  · exact bx ((bx k1 (st _ _ bp (.slice none 0 0) n1)).set (.int .i64 (a : Int))) ((st _ _ _ (.int .i64 (e : Int)) n3.symm).trans (Only.drew _ _) (fun _ _ h => h))
  · exact (bx (bx k2 (st _ _ bp (.slice none 0 0) n2)) (st _ _ ba (.int .i64 (a : Int)) n3)).set (.int .i64 (e : Int))
  · have h := ((((oA.mono (T := fun i => i = bp ∨ i = ba ∨ i = be) (fun _ _ h => h.elim)).put bp 0 (.slice none 0 0) (.inl rfl)).put ba 0 (.int .i64 (a : Int)) (.inr (.inl rfl))).put be 0 (.int .i64 (e : Int)) (.inr (.inr rfl)))
    exact h.also (Only.drew Nob _)

end Go.Proofs.YtddjbfmohibgbaaDoor
