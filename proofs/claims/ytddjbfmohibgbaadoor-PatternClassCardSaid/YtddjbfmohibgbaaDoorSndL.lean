/- Covering is sound; wider patterns cover. No program is looked at. -/
import Derived.Test.YtddjbfmohibgbaaDoorDec
import Derived.Test.YtddjbfmohibgbaaDoorCovL
namespace Go.Proofs.YtddjbfmohibgbaaDoor

theorem cin_iff (a k : Int) : cin a k = true ↔ 0 < a ∧ (a = k ∨ k = 7 ∨ (k = 4 ∧ (a = 2 ∨ a = 3))) := by simp [cin, or_assoc]
theorem cin_trans {a b c : Int} (h1 : cin a b = true) (h2 : cin b c = true) : cin a c = true := by
  rw [cin_iff] at *
  omega
theorem allB_mono {s : List UInt8} {a b : Int} (h1 : allB s a = true) (h2 : cin a b = true) : allB s b = true := by
  unfold allB at *
  rw [List.all_eq_true] at *
  exact fun c hc => cin_trans (h1 c hc) h2
theorem allB_seven {s : List UInt8} {a : Int} (h1 : allB s a = true) : allB s 7 = true := by
  unfold allB at *
  rw [List.all_eq_true] at *
  intro c hc
  have := h1 c hc
  rw [cin_iff] at *
  omega
theorem allB_append (s t : List UInt8) (k : Int) : allB (s ++ t) k = (allB s k && allB t k) := by simp [allB]

theorem fit_size {x : Pc} {u : List UInt8} (h : Fit x u) : sizeA x ≤ (u.length : Int) ∧ (u.length : Int) ≤ sizeZ x := by
  unfold Fit at h
  unfold sizeA sizeZ
  split at h
  · rename_i hc
    rw [if_pos hc, if_pos hc, h]
    exact ⟨Int.le_refl _, Int.le_refl _⟩
  · rename_i hc
    rw [if_neg hc, if_neg hc]
    exact ⟨h.1, h.2.1⟩
theorem fit_inside {x : Pc} {u : List UInt8} {k : Int} (h : Fit x u) (hi : insideB x k = true) : allB u k = true := by
  unfold Fit at h
  unfold insideB at hi
  split at h
  · rename_i hc
    rw [if_pos hc] at hi
    rw [h]; exact hi
  · rename_i hc
    rw [if_neg hc] at hi
    exact allB_mono h.2.2 hi

theorem covers_fit {a b : Pc} {u : List UInt8} (h : coversB a b = true) (hb : Fit b u) : Fit a u := by
  unfold coversB at h
  unfold Fit
  by_cases hc : a.c = 0
  · rw [if_pos hc] at h
    rw [if_pos hc]
    simp only [Bool.and_eq_true, decide_eq_true_eq] at h
    unfold Fit at hb
    rw [if_pos h.1] at hb
    rw [hb, h.2]
  · rw [if_neg hc] at h
    rw [if_neg hc]
    simp only [Bool.and_eq_true, decide_eq_true_eq] at h
    have := fit_size hb
    exact ⟨by omega, by omega, fit_inside hb h.1.1⟩

theorem pair_dec : ∀ {p q : List Pc} {s : List UInt8}, pairB p q = true → Dec q s → Dec p s
  | [], [], _, _, h => h
  | [], _ :: _, _, h, _ => by simp [pairB] at h
  | _ :: _, [], _, h, _ => by simp [pairB] at h
  | a :: p, b :: q, s, h, hd => by
    simp only [pairB, Bool.and_eq_true] at h
    obtain ⟨u, v, rfl, h1, h2⟩ := hd
    exact ⟨u, v, rfl, covers_fit h.1 h1, pair_dec h.2 h2⟩

theorem dec_size : ∀ {q : List Pc} {s : List UInt8}, Dec q s → sumA q ≤ (s.length : Int) ∧ (s.length : Int) ≤ sumZ q
  | [], s, h => by cases h; simp [sumA, sumZ]
  | x :: q, s, h => by
    obtain ⟨u, v, rfl, h1, h2⟩ := h
    have h3 := fit_size h1
    have h4 := dec_size h2
    have e1 : sumA (x :: q) = sizeA x + sumA q := by simp [sumA]
    have e2 : sumZ (x :: q) = sizeZ x + sumZ q := by simp [sumZ]
    rw [e1, e2, List.length_append]
    omega
theorem dec_all {k : Int} : ∀ {q : List Pc} {s : List UInt8}, Dec q s → q.all (fun x => insideB x k) = true → allB s k = true
  | [], s, h, _ => by cases h; rfl
  | x :: q, s, h, hi => by
    obtain ⟨u, v, rfl, h1, h2⟩ := h
    rw [List.all_cons, Bool.and_eq_true] at hi
    rw [allB_append, fit_inside h1 hi.1, dec_all h2 hi.2]
    rfl

theorem cover_sound {p q : List Pc} {s : List UInt8} (h : coverB p q = true) (hm : matchB q s = true) : matchB p s = true := by
  rw [matchB_iff] at hm ⊢
  obtain ⟨h1, h2, h3⟩ := hm
  simp only [coverB, Bool.and_eq_true, Bool.or_eq_true] at h
  refine ⟨h.1.1, h2, ?_⟩
  rcases h.2 with h4 | h4
  · exact pair_dec h4 h3
  · unfold oneB at h4
    split at h4
    · rename_i a
      simp only [Bool.and_eq_true, decide_eq_true_eq, Bool.not_eq_true', decide_eq_false_iff_not] at h4
      obtain ⟨⟨⟨g1, g2⟩, g3⟩, g4⟩ := h4
      have h5 := dec_size h3
      have h6 : s.length ≤ 200 := by unfold textB at h2; simp at h2; exact h2.1
      refine (dec_one _ _).2 ?_
      unfold Fit
      rw [if_neg g1]
      exact ⟨by omega, by omega, dec_all h3 g2⟩
    · cases h4

/-- A pattern covers itself. -/
theorem covers_self {x : Pc} (h : runB x = true ∨ plainB x = true) : coversB x x = true := by
  unfold coversB
  by_cases hc : x.c = 0
  · rw [if_pos hc]; simp [hc]
  · rw [if_neg hc]
    have hr := h.resolve_right (fun h2 => hc (plainB_iff.1 h2).1)
    obtain ⟨h1, h2, h3, h4, h5, h6, h7⟩ := runB_iff.1 hr
    unfold insideB sizeA sizeZ
    rw [if_neg hc, if_neg hc, if_neg hc]
    simp [cin_iff]
    omega
theorem pair_self : ∀ {p : List Pc}, (∀ x ∈ p, runB x = true ∨ plainB x = true) → pairB p p = true
  | [], _ => rfl
  | x :: p, h => by
    simp only [pairB, Bool.and_eq_true]
    exact ⟨covers_self (h x List.mem_cons_self), pair_self fun y hy => h y (List.mem_cons_of_mem _ hy)⟩
theorem right_mem {p : List Pc} (h : rightB p = true) {x : Pc} (hx : x ∈ p) : runB x = true ∨ plainB x = true := by
  simp only [rightB, Bool.and_eq_true] at h
  exact okFrom_mem h.1.1 hx
theorem cover_self (p : List Pc) : coverB p p = rightB p := by
  cases h : rightB p
  · simp [coverB, h]
  · simp [coverB, h, pair_self (fun x hx => right_mem h hx)]

/-- A piece whose counts are wider by n. -/
def widen (n : Int) (x : Pc) : Pc := if x.c = 0 then x else ⟨if 0 < n then 7 else x.c, max (x.l - n) 0, min (x.m + n) 200, x.t⟩
def WideP : List Pc → List Pc → Prop
  | [], [] => True
  | a :: p, b :: q => (∃ n : Int, 0 ≤ n ∧ a = widen n b) ∧ WideP p q
  | _, _ => False

theorem widen_covers {n : Int} {x : Pc} (hn : 0 ≤ n) (h : runB x = true ∨ plainB x = true) : coversB (widen n x) x = true := by
  by_cases hc : x.c = 0
  · have e : widen n x = x := by unfold widen; rw [if_pos hc]
    rw [e]; exact covers_self h
  · have hr := h.resolve_right (fun h2 => hc (plainB_iff.1 h2).1)
    obtain ⟨h1, h2, h3, h4, h5, h6, h7⟩ := runB_iff.1 hr
    unfold coversB widen insideB sizeA sizeZ
    simp only [if_neg hc]
    by_cases h0 : 0 < n
    · simp only [if_pos h0]
      rw [if_neg (by omega)]
      simp [cin_iff]
      omega
    · simp only [if_neg h0, if_neg hc]
      simp [cin_iff]
      omega
theorem wide_pair : ∀ {p q : List Pc}, WideP p q → (∀ x ∈ q, runB x = true ∨ plainB x = true) → pairB p q = true
  | [], [], _, _ => rfl
  | a :: p, b :: q, h, hq => by
    obtain ⟨⟨n, hn, rfl⟩, h2⟩ := h
    simp only [pairB, Bool.and_eq_true]
    exact ⟨widen_covers hn (hq b List.mem_cons_self), wide_pair h2 fun y hy => hq y (List.mem_cons_of_mem _ hy)⟩
  | [], _ :: _, h, _ => h.elim
  | _ :: _, [], h, _ => h.elim
theorem wide_cover {p q : List Pc} (h : WideP p q) (hp : rightB p = true) (hq : rightB q = true) : coverB p q = true := by
  simp [coverB, hp, hq, wide_pair h (fun x hx => right_mem hq hx)]

end Go.Proofs.YtddjbfmohibgbaaDoor
