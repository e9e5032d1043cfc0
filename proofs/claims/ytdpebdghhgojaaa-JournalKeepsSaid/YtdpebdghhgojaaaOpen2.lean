/- How further arguments of the statements are read: a pair of integers by value. -/
import Derived.Test.YtdpebdghhgojaaaOpen
namespace Go.Proofs.Ytdpebdghhgojaaa
open Go.ChangeShapes Go.WideShapes Go.ChangeAt Go.RowKit Go.Deep

section
variable {H : Type} {enc : TypeId × Value → H} {W : World}

theorem okWide_pair42 {base : Nat} {v : Value} (h : Value.okWide Try.prog W .any base 42 v) : ∃ cs, v = .agg cs := by
  simp only [Value.okWide, Try.underlying42] at h
  obtain ⟨cs, h1, _⟩ := h
  exact ⟨cs, h1⟩

theorem open_pairI {v : Value} {d : DataW H} {p : List MemPlace} {base : Nat} (hok : Value.okWide Try.prog W .any base 42 v) (h : DataW.Trod enc Try.prog W 0 (fun _ => true) true 42 v d p) :
    ∃ a b : Int, v = .agg #[.int .i64 a, .int .i64 b] ∧ (-9223372036854775808 ≤ a ∧ a ≤ 9223372036854775807) ∧ (-9223372036854775808 ≤ b ∧ b ≤ 9223372036854775807) := by
  obtain ⟨cs, rfl⟩ := okWide_pair42 hok
  obtain ⟨fuel, hf⟩ := h
  obtain ⟨a, b, hcs, ha, hb⟩ := open_pair hf
  refine ⟨a, b, ?_, ha, hb⟩
  have : cs.toList = [.int .i64 a, .int .i64 b] := by simpa [Value.cells] using hcs
  rw [← Array.toArray_toList (xs := cs), this]
end
end Go.Proofs.Ytdpebdghhgojaaa
