/- The reader of a pattern: where it lies, peek, fail. -/
import Derived.Test.YtddjbfmohibgbaaDoorEnds
import Derived.Test.YtddjbfmohibgbaaDoorPar
import Derived.Deep.RegionHeld3
namespace Go.Proofs.YtddjbfmohibgbaaDoor
open Go.RowKit

/-- A reader in the block g: its string, its place. -/
def Rd (w : World) (g : Nat) (s : List UInt8) (k : Nat) : Prop := w.heap[g]? = some (.cells #[.string ⟨s.toArray⟩, .int .i64 (k : Int)] 88 (0, 0))

theorem Rd.cells {w : World} {g : Nat} {s : List UInt8} {k : Nat} (h : Rd w g s k) : w.cell? ⟨g, 0, none⟩ = some (.string ⟨s.toArray⟩) ∧ w.cell? ⟨g, 1, none⟩ = some (.int .i64 (k : Int)) ∧ w.frozen? ⟨g, 1, none⟩ = false := by
  unfold Rd at h
  simp [World.cell?, World.frozen?, h]
theorem Rd.lt {w : World} {g : Nat} {s : List UInt8} {k : Nat} (h : Rd w g s k) : g < w.heap.size := lt_of_heap h
theorem Rd.other {S : Nat → Prop} {w w' : World} {g : Nat} {s : List UInt8} {k : Nat} (h : Rd w g s k) (ho : Only S w w') (hn : ¬ S g) : Rd w' g s k := (ho.block g h.lt hn).trans h
theorem Rd.set {w : World} {g : Nat} {s : List UInt8} {k : Nat} (h : Rd w g s k) (j : Nat) : Rd (w.setCell ⟨g, 1, none⟩ (.int .i64 (j : Int))) g s j := heap_setCell_same w g 1 _ 88 _ h

theorem Only.is_set {g : Nat} {w wr : World} (h : Only (Is g) w wr) (o : Nat) (v : Value) : Only (Is g) w (wr.setCell ⟨g, o, none⟩ v) := h.trans (Only.setCell (S := Is g) _ _ _ rfl) (fun _ _ h => h)
theorem Only.is_nob {g : Nat} {w w1 w2 : World} (h : Only (Is g) w w1) (k : Only Nob w1 w2) : Only (Is g) w w2 := h.trans k (fun _ _ h => h.elim)

theorem byte_at {s : List UInt8} {k : Nat} (h : k < s.length) : peekL s k = s[k] := by unfold peekL; simp [List.getD, List.getElem?_eq_getElem h]
theorem peekL_end {s : List UInt8} {k : Nat} (h : s.length ≤ k) : peekL s k = 0 := by unfold peekL; simp [List.getD, List.getElem?_eq_none h]

set_option maxHeartbeats 1000000 in
theorem peek_any (g : Nat) (s : List UInt8) (k : Nat) (w : World) (hr : Rd w g s k) :
    Calls Tryd.prog 105 #[.pointer (some ⟨g, 0, none⟩)] w fun e w' => e = .returned (.int .u8 (peekL s k).toNat) ∧ Only Nob w w' := by
  obtain ⟨c0, c1, -⟩ := hr.cells
  by_cases h : k < s.length
  · have kk : (k : Int) < (s.length : Int) := by omega
    rw [byte_at h]
    have ix : ∀ w, (Instr.index 9 (.string ⟨s.toArray⟩) (.int .i64 (k : Int))).run Tryd.prog w = .ok (.int .u8 (s[k].toNat : Nat)) w := fun w => by
      exact index_at s k h w
    go_enter Tryd.func105, Tryd.ntmps105
    go_wp2_with fail
    go_region_held3 (fun w' => w'.cell? ⟨g, 0, none⟩ = some (.string ⟨s.toArray⟩) ∧ w'.cell? ⟨g, 1, none⟩ = some (.int .i64 (k : Int))) (exact ⟨c0, c1⟩) (fail)
    go_wp2_with fail
    go_region_held3 (fun w' => w'.cell? ⟨g, 0, none⟩ = some (.string ⟨s.toArray⟩) ∧ w'.cell? ⟨g, 1, none⟩ = some (.int .i64 (k : Int))) (exact ⟨c0, c1⟩) (fail)
    go_wp2
    go_ret
    exact ⟨rfl, (Only.drew Nob _).nob (Only.drew Nob _)⟩
  · rw [peekL_end (by omega)]
    have kk : ¬ (k : Int) < (s.length : Int) := by omega
    go_enter Tryd.func105, Tryd.ntmps105
    go_wp2_with fail
    go_region_held3 (fun w' => w'.cell? ⟨g, 0, none⟩ = some (.string ⟨s.toArray⟩) ∧ w'.cell? ⟨g, 1, none⟩ = some (.int .i64 (k : Int))) (exact ⟨c0, c1⟩) (fail)
    go_wp2
    go_ret
    exact ⟨rfl, (Only.drew Nob _)⟩

/-- A panic with a mistake. -/
def Mis (a e : Nat) : Ending := .panicked [{ v := .iface 84 (.agg #[.int .i64 (a : Int), .int .i64 (e : Int)]), recovered := false }]

theorem fail_any (v : Value) (a e : Nat) (w : World) : Calls Tryd.prog 107 #[v, .int .i64 (a : Int), .int .i64 (e : Int)] w fun en w' => en = .panicked [{ v := .iface 84 (.agg #[.int .i64 (a : Int), .int .i64 (e : Int)]), recovered := false }] ∧ w = w' := by
  have hp : ∀ w, (Instr.panic (.iface 84 (.agg #[.int .i64 (a : Int), .int .i64 (e : Int)]))).run Tryd.prog w = .halt (.panic (.iface 84 (.agg #[.int .i64 (a : Int), .int .i64 (e : Int)]))) w := fun _ => rfl
  go_enter Tryd.func107, Tryd.ntmps107
  go_wp2
  exact ⟨rfl, rfl, rfl⟩

end Go.Proofs.YtddjbfmohibgbaaDoor
