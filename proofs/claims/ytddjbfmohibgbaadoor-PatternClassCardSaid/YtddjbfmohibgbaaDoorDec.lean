/- What a pattern reaches is what it can be cut into, piece by piece. No program is looked at. -/
import Derived.Test.YtddjbfmohibgbaaDoorMat
namespace Go.Proofs.YtddjbfmohibgbaaDoor

/-- A part that a piece matches. -/
def Fit (x : Pc) (u : List UInt8) : Prop := if x.c = 0 then u = x.t else x.l ≤ (u.length : Int) ∧ (u.length : Int) ≤ x.m ∧ allB u x.c = true

/-- A string that can be cut into parts, one for each piece. -/
def Dec : List Pc → List UInt8 → Prop
  | [], s => s = []
  | x :: p, s => ∃ u v, s = u ++ v ∧ Fit x u ∧ Dec p v

theorem dec_append : ∀ (p q : List Pc) (s : List UInt8), Dec (p ++ q) s ↔ ∃ u v, s = u ++ v ∧ Dec p u ∧ Dec q v
  | [], q, s => by
    constructor
    · exact fun h => ⟨[], s, rfl, rfl, h⟩
    · rintro ⟨u, v, rfl, h1, h2⟩
      cases h1
      exact h2
  | x :: p, q, s => by
    constructor
    · rintro ⟨u, v, rfl, h1, h2⟩
      obtain ⟨a, b, rfl, h3, h4⟩ := (dec_append p q v).1 h2
      exact ⟨u ++ a, b, by simp, ⟨u, a, rfl, h1, h3⟩, h4⟩
    · rintro ⟨u, v, rfl, ⟨a, b, rfl, h1, h2⟩, h3⟩
      exact ⟨a, b ++ v, by simp, h1, (dec_append p q (b ++ v)).2 ⟨b, v, rfl, h2, h3⟩⟩
theorem dec_one (x : Pc) (s : List UInt8) : Dec [x] s ↔ Fit x s := by
  constructor
  · rintro ⟨u, v, rfl, h, h2⟩
    cases h2
    simpa using h
  · exact fun h => ⟨s, [], by simp, h, rfl⟩

/-- The bytes from k to e. -/
def sub (s : List UInt8) (k e : Nat) : List UInt8 := (s.drop k).take (e - k)
theorem length_sub {s : List UInt8} {k e : Nat} (h1 : k ≤ e) (h2 : e ≤ s.length) : (sub s k e).length = e - k := by unfold sub; simp; omega
theorem sub_self (s : List UInt8) (k : Nat) : sub s k k = [] := by unfold sub; simp
theorem sub_all (s : List UInt8) : sub s 0 s.length = s := by unfold sub; simp
theorem sub_append {s : List UInt8} {a b c : Nat} (h1 : a ≤ b) (h2 : b ≤ c) : sub s a b ++ sub s b c = sub s a c := by
  unfold sub
  have e : s.drop b = (s.drop a).drop (b - a) := by rw [List.drop_drop]; congr 1; omega
  rw [e, show c - a = (b - a) + (c - b) by omega, List.take_add]
theorem sub_split {s u v : List UInt8} {k e : Nat} (h1 : k ≤ e) (h2 : e ≤ s.length) (h : sub s k e = u ++ v) : u = sub s k (k + u.length) ∧ v = sub s (k + u.length) e ∧ k + u.length ≤ e := by
  have hl := length_sub h1 h2
  rw [h, List.length_append] at hl
  have h3 : k + u.length ≤ e := by omega
  have h4 : sub s k (k + u.length) ++ sub s (k + u.length) e = u ++ v := by rw [← h]; exact sub_append (by omega) h3
  have h5 := List.append_inj h4 (by rw [length_sub (by omega) (by omega)]; omega)
  exact ⟨h5.1.symm, h5.2.symm, h3⟩

theorem allB_sub {s : List UInt8} {k j : Nat} {c : Int} (h : k + j ≤ s.length) : allB (sub s k (k + j)) c = true ↔ ∀ q, 0 < q → q ≤ j → cin (cls (s.getD (k + q - 1) 0)) c = true := by
  induction j with
  | zero =>
    rw [show k + 0 = k by omega, sub_self]
    exact ⟨fun _ q h1 h2 => by omega, fun _ => rfl⟩
  | succ j ih =>
    have hk : k + j < s.length := by omega
    have e : sub s k (k + (j + 1)) = sub s k (k + j) ++ [s[k + j]] := by
      rw [← sub_append (show k ≤ k + j by omega) (show k + j ≤ k + (j + 1) by omega)]
      congr 1
      unfold sub
      rw [show k + (j + 1) - (k + j) = 1 by omega, List.drop_eq_getElem_cons hk]
      rfl
    have e2 : allB (sub s k (k + (j + 1))) c = (allB (sub s k (k + j)) c && cin (cls s[k + j]) c) := by rw [e]; simp [allB]
    rw [e2, Bool.and_eq_true, ih (by omega)]
    have e3 : s.getD (k + (j + 1) - 1) 0 = s[k + j] := by rw [show k + (j + 1) - 1 = k + j by omega]; simp [List.getD, hk]
    constructor
    · rintro ⟨h1, h2⟩ q h3 h4
      rcases Nat.lt_or_ge j q with h5 | h5
      · obtain rfl : q = j + 1 := by omega
        rw [e3]; exact h2
      · exact h1 q h3 h5
    · intro h1
      exact ⟨fun q h2 h3 => h1 q h2 (by omega), by rw [← e3]; exact h1 (j + 1) (by omega) (Nat.le_refl _)⟩

theorem mem_runL {x : Pc} {s : List UInt8} {k e : Nat} : ∀ {f n : Nat}, s.length + 1 ≤ f + n + k → (e ∈ runL x s k f n ↔ ∃ j, n ≤ j ∧ e = k + j ∧ (j : Int) ≤ x.m ∧ k + j ≤ s.length ∧ x.l ≤ (j : Int) ∧ ∀ q, n ≤ q → 0 < q → q ≤ j → cin (cls (s.getD (k + q - 1) 0)) x.c = true)
  | 0, n, hf => by
    constructor
    · intro h; cases h
    · rintro ⟨j, h1, rfl, h2, h3, _⟩
      omega
  | f + 1, n, hf => by
    by_cases h : (n : Int) ≤ x.m ∧ k + n ≤ s.length
    · by_cases h2 : 0 < n ∧ cin (cls (s.getD (k + n - 1) 0)) x.c = false
      · rw [runL_bad h2]
        constructor
        · intro h; cases h
        · rintro ⟨j, g1, rfl, g2, g3, g4, g5⟩
          have := g5 n (Nat.le_refl _) h2.1 g1
          rw [h2.2] at this
          cases this
      · rw [runL_go h h2, List.mem_append, mem_runL (f := f) (n := n + 1) (by omega)]
        constructor
        · rintro (h3 | ⟨j, g1, rfl, g2, g3, g4, g5⟩)
          · split at h3
            · rename_i h4
              simp at h3
              refine ⟨n, Nat.le_refl _, h3, h.1, h.2, h4, fun q g1 g2 g3 => ?_⟩
              obtain rfl : q = n := by omega
              cases hc : cin (cls (s.getD (k + q - 1) 0)) x.c
              · exact absurd ⟨g2, hc⟩ h2
              · rfl
            · cases h3
          · refine ⟨j, by omega, rfl, g2, g3, g4, fun q q1 q2 q3 => ?_⟩
            rcases Nat.lt_or_ge n q with h5 | h5
            · exact g5 q h5 q2 q3
            · obtain rfl : q = n := by omega
              cases hc : cin (cls (s.getD (k + q - 1) 0)) x.c
              · exact absurd ⟨q2, hc⟩ h2
              · rfl
        · rintro ⟨j, g1, rfl, g2, g3, g4, g5⟩
          rcases Nat.lt_or_ge n j with h5 | h5
          · exact .inr ⟨j, h5, rfl, g2, g3, g4, fun q q1 q2 q3 => g5 q (by omega) q2 q3⟩
          · obtain rfl : j = n := by omega
            left
            rw [if_pos g4]
            simp
    · rw [runL_stop h]
      constructor
      · intro h; cases h
      · rintro ⟨j, g1, rfl, g2, g3, g4, g5⟩
        exact absurd ⟨by omega, by omega⟩ h

theorem mem_endsL {x : Pc} {s : List UInt8} {k e : Nat} (hk : k ≤ s.length) : e ∈ endsL x s k ↔ k ≤ e ∧ e ≤ s.length ∧ Fit x (sub s k e) := by
  unfold endsL Fit
  by_cases hc : x.c = 0
  · rw [if_pos hc, if_pos hc]
    constructor
    · intro h
      split at h
      · rename_i h2
        have h3 := prefix_le h2 hk
        simp at h
        subst h
        refine ⟨by omega, h3, ?_⟩
        obtain ⟨r, hr⟩ := List.isPrefixOf_iff_prefix.1 h2
        unfold sub
        rw [← hr, show k + x.t.length - k = x.t.length by omega]
        simp
      · cases h
    · rintro ⟨h1, h2, h3⟩
      have hl := length_sub h1 h2
      rw [h3] at hl
      have h4 : x.t.isPrefixOf (s.drop k) = true := by
        rw [List.isPrefixOf_iff_prefix]
        refine ⟨(s.drop k).drop (e - k), ?_⟩
        rw [← h3]
        unfold sub
        exact List.take_append_drop _ _
      rw [if_pos h4]
      simp
      omega
  · rw [if_neg hc, if_neg hc, mem_runL (by omega)]
    constructor
    · rintro ⟨j, _, rfl, h2, h3, h4, h5⟩
      rw [length_sub (by omega) h3, allB_sub h3, show k + j - k = j by omega]
      exact ⟨by omega, h3, h4, h2, fun q h1 h6 => h5 q (Nat.zero_le _) h1 h6⟩
    · rintro ⟨h1, h2, h3⟩
      rw [length_sub h1 h2] at h3
      have e1 : e = k + (e - k) := by omega
      rw [e1, show k + (e - k) - k = e - k by omega, allB_sub (by omega)] at h3
      exact ⟨e - k, Nat.zero_le _, e1, h3.2.1, by omega, h3.1, fun q _ h4 h5 => h3.2.2 q h4 h5⟩

theorem getD_set (l : List Bool) (a e : Nat) : (l.set a true).getD e false = (decide (e = a ∧ e < l.length) || l.getD e false) := by
  simp only [List.getD_eq_getElem?_getD, List.getElem?_set]
  by_cases h : a = e
  · subst h
    by_cases h2 : a < l.length
    · simp [h2]
    · simp [h2]
  · rw [if_neg h]
    have : ¬ (e = a ∧ e < l.length) := fun h3 => h h3.1.symm
    simp [this]
theorem getD_marks (l : List Nat) : ∀ (b : List Bool) (e : Nat), e < b.length → ((marks l b).getD e false = true ↔ e ∈ l ∨ b.getD e false = true) := by
  induction l with
  | nil => intro b e _; simp [marks]
  | cons a l ih =>
    intro b e h
    show (marks l (b.set a true)).getD e false = true ↔ _
    rw [ih _ e (by simpa using h), getD_set]
    simp [h]
    constructor
    · rintro (h1 | h1 | h1)
      · exact .inl (.inr h1)
      · exact .inl (.inl h1)
      · exact .inr h1
    · rintro ((h1 | h1) | h1)
      · exact .inr (.inl h1)
      · exact .inl h1
      · exact .inr (.inr h1)
theorem getD_stepF (x : Pc) (s : List UInt8) (now : List Bool) (e : Nat) (he : e ≤ s.length) : ∀ k, ((stepF x s now k).getD e false = true ↔ ∃ i, i < k ∧ now.getD i false = true ∧ e ∈ endsL x s i)
  | 0 => by
    constructor
    · intro h
      simp [stepF, List.getD_eq_getElem?_getD, List.getElem?_replicate] at h
      split at h <;> simp at h
    · rintro ⟨i, h, _⟩; omega
  | k + 1 => by
    have ih := getD_stepF x s now e he k
    rw [stepF_succ]
    by_cases hn : now.getD k false = true
    · rw [if_pos hn, getD_marks _ _ _ (by rw [length_stepF]; omega), ih]
      constructor
      · rintro (h | ⟨i, h1, h2⟩)
        · exact ⟨k, by omega, hn, h⟩
        · exact ⟨i, by omega, h2⟩
      · rintro ⟨i, h1, h2, h3⟩
        rcases Nat.lt_or_ge i k with h4 | h4
        · exact .inr ⟨i, h4, h2, h3⟩
        · obtain rfl : i = k := by omega
          exact .inl h3
    · rw [if_neg hn, ih]
      constructor
      · rintro ⟨i, h1, h2⟩; exact ⟨i, by omega, h2⟩
      · rintro ⟨i, h1, h2, h3⟩
        refine ⟨i, ?_, h2, h3⟩
        rcases Nat.lt_or_ge i k with h4 | h4
        · exact h4
        · obtain rfl : i = k := by omega
          exact absurd h2 hn

/-- What is reached. -/
theorem reach_iff (p : List Pc) (s : List UInt8) (f : Nat) (hf : f ≤ s.length) : ∀ e, e ≤ s.length → ((reachL p s f).getD e false = true ↔ f ≤ e ∧ Dec p (sub s f e)) := by
  induction h : p.length generalizing p with
  | zero =>
    intro e he
    obtain rfl := List.length_eq_zero_iff.1 h
    show ((List.replicate (s.length + 1) false).set f true).getD e false = true ↔ f ≤ e ∧ sub s f e = []
    rw [getD_set]
    have e1 : (List.replicate (s.length + 1) false).getD e false = false := by
      simp only [List.getD_eq_getElem?_getD, List.getElem?_replicate]
      split <;> rfl
    rw [e1, Bool.or_false, decide_eq_true_eq, List.length_replicate]
    constructor
    · rintro ⟨rfl, _⟩
      exact ⟨Nat.le_refl _, sub_self _ _⟩
    · rintro ⟨h1, h2⟩
      have := length_sub h1 he
      rw [h2] at this
      simp at this
      omega
  | succ n ih =>
    intro e he
    rcases List.eq_nil_or_concat p with rfl | ⟨q, x, rfl⟩
    · simp at h
    rw [List.concat_eq_append] at h ⊢
    have ih := ih q (by simpa using h)
    rw [reachL_snoc, stepL, getD_stepF _ _ _ _ he]
    constructor
    · rintro ⟨i, h1, h2, h3⟩
      obtain ⟨h4, h5⟩ := (ih i (by omega)).1 h2
      obtain ⟨h6, h7, h8⟩ := (mem_endsL (by omega)).1 h3
      refine ⟨by omega, (dec_append _ _ _).2 ⟨sub s f i, sub s i e, (sub_append h4 h6).symm, h5, (dec_one _ _).2 h8⟩⟩
    · rintro ⟨h1, h2⟩
      obtain ⟨u, v, h3, h4, h5⟩ := (dec_append _ _ _).1 h2
      obtain ⟨e1, e2, h6⟩ := sub_split h1 he h3
      rw [e1] at h4
      rw [dec_one, e2] at h5
      exact ⟨f + u.length, by omega, (ih _ (by omega)).2 ⟨by omega, h4⟩, (mem_endsL (by omega)).2 ⟨h6, he, h5⟩⟩

theorem matchB_iff (p : List Pc) (s : List UInt8) : matchB p s = true ↔ rightB p = true ∧ textB s = true ∧ Dec p s := by
  unfold matchB
  rw [Bool.and_eq_true, Bool.and_eq_true, reach_iff p s 0 (Nat.zero_le _) _ (Nat.le_refl _), sub_all]
  constructor
  · rintro ⟨⟨h1, h2⟩, _, h3⟩; exact ⟨h1, h2, h3⟩
  · rintro ⟨h1, h2, h3⟩; exact ⟨⟨h1, h2⟩, Nat.zero_le _, h3⟩

end Go.Proofs.YtddjbfmohibgbaaDoor
