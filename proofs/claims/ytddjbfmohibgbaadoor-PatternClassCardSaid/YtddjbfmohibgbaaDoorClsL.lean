/- A pattern of one run: what it matches. No program is looked at. -/
import Derived.Test.YtddjbfmohibgbaaDoorMdL
namespace Go.Proofs.YtddjbfmohibgbaaDoor

theorem right_one {c l m : Int} (h0 : 0 < c) (h1 : c ≤ 7) (h2 : 0 ≤ l) (h3 : l ≤ m) (h4 : 0 < m) (h5 : m ≤ 200) : rightB [⟨c, l, m, []⟩] = true := by
  have hr : runB ⟨c, l, m, []⟩ = true := runB_iff.2 ⟨h0, h1, h2, h3, h4, h5, rfl⟩
  have hp : plainB ⟨c, l, m, []⟩ = false := by
    cases h : plainB ⟨c, l, m, []⟩
    · rfl
    · have : c = 0 := (plainB_iff.1 h).1
      omega
  have hl := length_pieceS ⟨c, l, m, []⟩
  have hw : writtenS [⟨c, l, m, []⟩] = pieceS ⟨c, l, m, []⟩ := by simp [writtenS]
  simp only [rightB, okFrom, hr, hp, hw, Bool.true_or, Bool.false_and, Bool.not_false, Bool.and_true, List.length_singleton, Bool.and_eq_true, decide_eq_true_eq]
  simp only [List.length_nil] at hl
  refine ⟨by decide, ?_⟩
  omega

/-- A byte and the pattern of one class. -/
theorem match_class (c : UInt8) {n : Int} (h0 : 0 < n) (h1 : n ≤ 7) : matchB [⟨n, 1, 1, []⟩] [c] = (decide (n = cls c) || (decide (n = 7) && decide (0 < cls c)) || (decide (n = 4) && (decide (cls c = 2) || decide (cls c = 3)))) := by
  rw [Bool.eq_iff_iff, matchB_iff, dec_one]
  have hr := right_one h0 h1 (l := 1) (m := 1) (by omega) (by omega) (by omega) (by omega)
  have ht : textB [c] = cin (cls c) 7 := by simp [textB, allB]
  have hf : Fit ⟨n, 1, 1, []⟩ [c] ↔ cin (cls c) n = true := by
    unfold Fit
    rw [if_neg (by show ¬ n = 0; omega)]
    simp [allB]
  have hk := cls_rng c
  rw [hf, ht, cin_iff, cin_iff]
  simp only [Bool.or_eq_true, Bool.and_eq_true, decide_eq_true_eq]
  constructor
  · rintro ⟨_, _, _⟩; omega
  · intro h
    have hp : 0 < cls c := by omega
    refine ⟨hr, ⟨hp, .inr (.inl trivial)⟩, hp, ?_⟩
    rcases h with (h | h) | h
    · exact .inl h.symm
    · exact .inr (.inl h.1)
    · exact .inr (.inr h)

/-- A text by itself. -/
theorem match_whole {s : List UInt8} (h0 : 0 < s.length) (h1 : s.length ≤ 200) (h : allB s 7 = true) : matchB [⟨7, s.length, s.length, []⟩] s = true := by
  refine (matchB_iff _ _).2 ⟨right_one (by omega) (by omega) (by omega) (by omega) (by omega) (by omega), by simp [textB, h, h1], (dec_one _ _).2 ?_⟩
  unfold Fit
  rw [if_neg (by show ¬ (7 : Int) = 0; omega)]
  exact ⟨Int.le_refl _, Int.le_refl _, h⟩

end Go.Proofs.YtddjbfmohibgbaaDoor
