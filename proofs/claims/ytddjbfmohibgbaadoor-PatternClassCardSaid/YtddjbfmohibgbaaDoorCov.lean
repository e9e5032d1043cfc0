/- Covering: the program's functions. -/
import Derived.Test.YtddjbfmohibgbaaDoorRight
import Derived.Test.YtddjbfmohibgbaaDoorCovL
import Derived.Deep.QuietTactic
import Derived.BigQuiet
import Derived.WalkLawsBesides
namespace Go.Proofs.YtddjbfmohibgbaaDoor
open Go.RowKit

/-- Two numbers, in new memory or none. -/
def TwoPost (a b : Int) (w : World) (e : Ending) (w' : World) : Prop := e = .returned (.tuple #[.int .i64 a, .int .i64 b]) ∧ Only Nob w w'

theorem size_any (x : Pc) (w : World) : Calls Tryd.prog 68 #[pcV x] w (TwoPost (sizeA x) (sizeZ x) w) := by
  obtain ⟨c, l, m, t⟩ := x
  unfold pcV SV
  have oB : Only Nob w (w.alloc (.cells #[.int .i64 c, .int .i64 l, .int .i64 m, .string ⟨t.toArray⟩] 31)) := Only.alloc _ _ _
  have HB := Lib.hid oB
  clear oB
  by_cases hc : c = 0
  · subst hc
    have e1 : sizeA ⟨0, l, m, t⟩ = t.length := by unfold sizeA; rw [if_pos rfl]
    have e2 : sizeZ ⟨0, l, m, t⟩ = t.length := by unfold sizeZ; rw [if_pos rfl]
    rw [e1, e2]
    clear e1 e2
    go_enter Tryd.func68, Tryd.ntmps68
    go_wp2_with fail
    go_quiet (fail)
    go_wp2
    go_ret2
    exact ⟨rfl, HB.out.nob (Only.drewN Nob _ _)⟩
  · have e1 : sizeA ⟨c, l, m, t⟩ = l := by unfold sizeA; rw [if_neg hc]
    have e2 : sizeZ ⟨c, l, m, t⟩ = m := by unfold sizeZ; rw [if_neg hc]
    rw [e1, e2]
    have c0 : (c == 0) = false := by simp; omega
    clear e1 e2 hc
    go_enter Tryd.func68, Tryd.ntmps68
    go_wp2_with fail
    go_quiet (fail)
    go_wp2
    go_ret2
    exact ⟨rfl, HB.out.nob (Only.drewN Nob _ _)⟩

theorem inside_any (x : Pc) (k : Int) (w : World) (hx : x.t.length ≤ 1000) : Calls Tryd.prog 67 #[pcV x, .int .i64 k] w (BoolPost (insideB x k) w) := by
  obtain ⟨c, l, m, t⟩ := x
  simp only at hx
  unfold pcV SV
  have oB : Only Nob w (w.alloc (.cells #[.int .i64 c, .int .i64 l, .int .i64 m, .string ⟨t.toArray⟩] 31)) := Only.alloc _ _ _
  have HB := Lib.hid oB
  clear oB
  by_cases hc : c = 0
  · subst hc
    have e1 : insideB ⟨0, l, m, t⟩ k = allB t k := by unfold insideB; rw [if_pos rfl]
    rw [e1]
    have A := Lib.hid (show ∀ w, Calls Tryd.prog 99 #[.string ⟨t.toArray⟩, .int .i64 k] w (BoolPost (allB t k) w) from fun w => all_any ⟨t.toArray⟩ k w (show t.length ≤ _ by omega))
    clear e1
    go_enter Tryd.func67, Tryd.ntmps67
    go_wp2_with fail
    refine (A.out _).mono ?_
    rintro e w2 ⟨rfl, o2⟩
    go_wp2
    go_ret
    exact ⟨rfl, HB.out.nob o2⟩
  · have e1 : insideB ⟨c, l, m, t⟩ k = cin c k := by unfold insideB; rw [if_neg hc]
    rw [e1]
    have c0 : (c == 0) = false := by simp; omega
    clear e1 hc
    go_enter Tryd.func67, Tryd.ntmps67
    go_wp2_with (go_at_call 113; refine (contained_any _ _ _).mono ?_; rintro e w' ⟨rfl, rfl⟩)
    go_ret
    exact ⟨rfl, HB.out⟩

def pcW (w : World) (a b : Pc) : World := (w.alloc (.cells #[.int .i64 a.c, .int .i64 a.l, .int .i64 a.m, .string ⟨a.t.toArray⟩] 31)).alloc (.cells #[.int .i64 b.c, .int .i64 b.l, .int .i64 b.m, .string ⟨b.t.toArray⟩] 31)
theorem pcW_at (w : World) (a b : Pc) : PcAt (pcW w a b) w.heap.size 0 a ∧ PcAt (pcW w a b) (w.heap.size + 1) 0 b ∧ Only Nob w (pcW w a b) := by
  unfold pcW
  have h : PcAt (w.alloc (.cells #[.int .i64 a.c, .int .i64 a.l, .int .i64 a.m, .string ⟨a.t.toArray⟩] 31)) w.heap.size 0 a := by unfold PcAt; simp
  refine ⟨h.other (Only.alloc Nob _ _) (fun h => h), ?_, (Only.alloc Nob _ _).nob (Only.alloc Nob _ _)⟩
  generalize hA : w.alloc (.cells #[.int .i64 a.c, .int .i64 a.l, .int .i64 a.m, .string ⟨a.t.toArray⟩] 31) = wA
  have hz : wA.heap.size = w.heap.size + 1 := by rw [← hA]; simp
  rw [← hz]
  unfold PcAt; simp

set_option maxRecDepth 100000 in
set_option maxHeartbeats 2000000 in
theorem covers_any (a b : Pc) (w : World) (ha : runB a = true ∨ plainB a = true) (hb : runB b = true ∨ plainB b = true) (hbt : b.t.length ≤ 1000) : Calls Tryd.prog 112 #[pcV a, pcV b] w (BoolPost (coversB a b) w) := by
  have hsp := same_plain ha hb
  obtain ⟨pA, pB, oW⟩ := pcW_at w a b
  have SZ := Lib.hid (size_any b)
  have IN := Lib.hid (fun w => inside_any b a.c w hbt)
  have hco : coversB a b = if a.c = 0 then decide (b.c = 0) && decide (a.t = b.t) else insideB b a.c && decide (a.l ≤ sizeA b) && decide (sizeZ b ≤ a.m) := rfl
  obtain ⟨c, l, m, t⟩ := a
  obtain ⟨c', l', m', t'⟩ := b
  have HW := Lib.hid (show ∀ w', Only Nob (pcW w ⟨c, l, m, t⟩ ⟨c', l', m', t'⟩) w' → (w'.cell? ⟨w.heap.size, 0, none⟩ = some (.int .i64 c) ∧ w'.cell? ⟨w.heap.size, 1, none⟩ = some (.int .i64 l) ∧ w'.cell? ⟨w.heap.size, 2, none⟩ = some (.int .i64 m) ∧ w'.cell? ⟨w.heap.size, 3, none⟩ = some (.string ⟨t.toArray⟩)) ∧ (w'.cell? ⟨w.heap.size + 1, 0, none⟩ = some (.int .i64 c') ∧ w'.cell? ⟨w.heap.size + 1, 1, none⟩ = some (.int .i64 l') ∧ w'.cell? ⟨w.heap.size + 1, 2, none⟩ = some (.int .i64 m') ∧ w'.cell? ⟨w.heap.size + 1, 3, none⟩ = some (.string ⟨t'.toArray⟩)) ∧ Only Nob w w' from fun w' o => ⟨pA.other o (fun h => h), pB.other o (fun h => h), oW.nob o⟩)
  unfold pcV SV at SZ IN ⊢
  unfold pcW at HW
  simp only at hco hsp SZ IN HW ⊢
  rw [hco]
  clear pA pB oW hco
  by_cases hc : c = 0
  · rw [if_pos hc, hsp hc]
    subst hc
    clear hsp SZ IN HW
    go_enter Tryd.func112, Tryd.ntmps112
    go_wp2_with fail
    all_goals
      go_ret
      refine ⟨ret_bool ?_, (Only.alloc Nob _ _).nob (Only.alloc Nob _ _)⟩
      first | rfl | (simp [*]; done)
  · rw [if_neg hc]
    have c0 : (c == 0) = false := by simp; omega
    clear hc hsp
    generalize sizeA ⟨c', l', m', t'⟩ = za at *
    generalize sizeZ ⟨c', l', m', t'⟩ = zb at *
    generalize insideB ⟨c', l', m', t'⟩ c = ib at *
    go_enter Tryd.func112, Tryd.ntmps112
    go_wp2_with fail
    refine (SZ.out _).mono ?_
    rintro e w2 ⟨rfl, o2⟩
    obtain ⟨⟨a0, a1, a2, a3⟩, ⟨b0, b1, b2, b3⟩, ow2⟩ := HW.out w2 o2
    go_wp2_with fail
    refine (IN.out _).mono ?_
    rintro e w3 ⟨rfl, o3⟩
    obtain ⟨⟨d0, d1, d2, d3⟩, -, ow3⟩ := HW.out w3 (o2.nob o3)
    clear a0 a1 a2 a3 b0 b1 b2 b3
    have HO := Lib.hid ow3
    cases ib
    case' true =>
      by_cases h1 : l ≤ za
      case' pos =>
        by_cases h2 : zb ≤ m
    all_goals
      go_wp2_with fail
      go_ret
      refine ⟨ret_bool ?_, HO.out⟩
      first | rfl | (simp [*]; done) | (simp at *; simp [*]; done) | (simp at *; omega)

end Go.Proofs.YtddjbfmohibgbaaDoor
