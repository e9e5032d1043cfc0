/- Patterns and texts that numbers determine, in plain words. No program is looked at. -/
import Derived.Test.YtddjbfmohibgbaaDoorSndL
namespace Go.Proofs.YtddjbfmohibgbaaDoor

def madeTexts : List (List UInt8) := [[45], [97], [66, 55], [43], [92, 123], [32], [120, 32, 121]]
def litAdd (p : List Pc) (t : List UInt8) : List Pc :=
  match p.getLast? with
  | some x => if x.c = 0 then p.dropLast ++ [{ x with t := x.t ++ t }] else p ++ [⟨0, 0, 0, t⟩]
  | none => [⟨0, 0, 0, t⟩]
def runM (a b c : Int) : Pc :=
  if c % 9 = 7 then ⟨a % 11 + 1, b % 3, 200, []⟩
  else if c % 9 = 8 then ⟨a % 11 + 1, 1, 1, []⟩
  else if b % 3 + c % 4 = 0 then ⟨a % 11 + 1, b % 3, 1, []⟩
  else ⟨a % 11 + 1, b % 3, b % 3 + c % 4, []⟩
def stepM (p : List Pc) (a b c : Int) : List Pc := if 6 < a % 11 then litAdd p (madeTexts.getD (b % 7).toNat []) else p ++ [runM a b c]
def madeN (l : List Int) : Nat → List Pc
  | 0 => []
  | n + 1 => stepM (madeN l n) (l.getD (3 * n) 0) (l.getD (3 * n + 1) 0) (l.getD (3 * n + 2) 0)
def madeL (l : List Int) : List Pc := madeN l (min 5 (l.length / 3))

theorem litAdd_nil (t : List UInt8) : litAdd [] t = [⟨0, 0, 0, t⟩] := rfl
theorem litAdd_lit (q : List Pc) (x : Pc) (t : List UInt8) (h : x.c = 0) : litAdd (q ++ [x]) t = q ++ [⟨x.c, x.l, x.m, x.t ++ t⟩] := by
  unfold litAdd; simp [h]
theorem litAdd_run (q : List Pc) (x : Pc) (t : List UInt8) (h : ¬ x.c = 0) : litAdd (q ++ [x]) t = q ++ [x] ++ [⟨0, 0, 0, t⟩] := by
  unfold litAdd; simp [h]

theorem madeTexts_ok {n : Nat} (h : n < 7) : madeTexts.getD n [] ≠ [] ∧ allB (madeTexts.getD n []) 7 = true ∧ (madeTexts.getD n []).length ≤ 3 := by
  have : n = 0 ∨ n = 1 ∨ n = 2 ∨ n = 3 ∨ n = 4 ∨ n = 5 ∨ n = 6 := by omega
  rcases this with rfl | rfl | rfl | rfl | rfl | rfl | rfl <;> exact ⟨by decide, by decide, by decide⟩

/-- A piece as the makers make it: right, its counts small or 200, its text short. -/
def MadeP (B : Nat) (x : Pc) : Prop := (runB x = true ∧ x.l ≤ 2 ∨ plainB x = true) ∧ x.t.length ≤ B
theorem MadeP.mono {A B : Nat} {x : Pc} (h : MadeP A x) (hab : A ≤ B) : MadeP B x := ⟨h.1, Nat.le_trans h.2 hab⟩
theorem runM_ok (a b c : Int) (h : ¬ 6 < a % 11) (B : Nat) : MadeP B (runM a b c) := by
  refine ⟨.inl ?_, ?_⟩
  · rw [runB_iff]
    unfold runM
    repeat' split
    all_goals simp
    all_goals omega
  · unfold runM
    repeat' split
    all_goals exact Nat.zero_le _

theorem litAdd_ok {p : List Pc} {t : List UInt8} {B : Nat} (hp : ∀ x ∈ p, MadeP B x) (h1 : t ≠ []) (h2 : allB t 7 = true) (h3 : t.length ≤ 3) : (∀ x ∈ litAdd p t, MadeP (B + 3) x) ∧ (litAdd p t).length ≤ p.length + 1 := by
  have hn : MadeP (B + 3) ⟨0, 0, 0, t⟩ := ⟨.inr (plainB_iff.2 ⟨rfl, rfl, rfl, h1, h2⟩), by show t.length ≤ _; omega⟩
  rcases List.eq_nil_or_concat p with rfl | ⟨q, x, rfl⟩
  · rw [litAdd_nil]
    exact ⟨fun x hx => by obtain rfl := List.mem_singleton.1 hx; exact hn, by simp⟩
  · rw [List.concat_eq_append] at *
    by_cases hc : x.c = 0
    · rw [litAdd_lit _ _ _ hc]
      refine ⟨fun y hy => ?_, by simp⟩
      rcases List.mem_append.1 hy with hy | hy
      · exact (hp y (List.mem_append_left _ hy)).mono (by omega)
      · obtain rfl := List.mem_singleton.1 hy
        have hx := hp x (by simp)
        have hpl := hx.1.resolve_left (fun h => by have := (runB_iff.1 h.1).1; omega)
        obtain ⟨q1, q2, q3, q4, q5⟩ := plainB_iff.1 hpl
        refine ⟨.inr (plainB_iff.2 ⟨q1, q2, q3, by simp [h1], by rw [allB_append, q5, h2]; rfl⟩), ?_⟩
        have := hx.2
        show (x.t ++ t).length ≤ _
        rw [List.length_append]
        omega
    · rw [litAdd_run _ _ _ hc]
      refine ⟨fun y hy => ?_, by simp⟩
      rcases List.mem_append.1 hy with hy | hy
      · exact (hp y hy).mono (by omega)
      · obtain rfl := List.mem_singleton.1 hy
        exact hn
theorem made_ok (l : List Int) : ∀ n, (∀ x ∈ madeN l n, MadeP (3 * n) x) ∧ (madeN l n).length ≤ n
  | 0 => ⟨fun x hx => (by cases hx), Nat.le_refl _⟩
  | n + 1 => by
    obtain ⟨h1, h2⟩ := made_ok l n
    unfold madeN stepM
    by_cases h : 6 < l.getD (3 * n) 0 % 11
    · rw [if_pos h]
      obtain ⟨t1, t2, t3⟩ := madeTexts_ok (n := (l.getD (3 * n + 1) 0 % 7).toNat) (by omega)
      obtain ⟨g1, g2⟩ := litAdd_ok h1 t1 t2 t3
      exact ⟨fun x hx => (g1 x hx).mono (by omega), by omega⟩
    · rw [if_neg h]
      refine ⟨fun x hx => ?_, by rw [List.length_append]; simp; omega⟩
      rcases List.mem_append.1 hx with hx | hx
      · exact (h1 x hx).mono (by omega)
      · obtain rfl := List.mem_singleton.1 hx
        exact runM_ok _ _ _ h _

/-- The letters of a sample. -/
def charsOf : List (List UInt8) := [[], [48, 49, 56, 57], [65, 90, 81], [97, 122, 113], [65, 90, 97, 122], [32], [45, 46, 43, 123], [97, 48, 32, 90, 126]]
def sampN (x : Pc) (at_ : Nat) (l : List Int) : Nat := (if at_ < l.length then min (x.l + l.getD at_ 0 % 3) x.m else x.l).toNat
def sampX (at_ : Nat) (l : List Int) (k : Nat) : Nat := (if at_ < l.length then (l.getD at_ 0 % 97).toNat + k else k)
def sampC (x : Pc) (at_ : Nat) (l : List Int) (k : Nat) : UInt8 := (charsOf.getD x.c.toNat []).getD (sampX at_ l k % (charsOf.getD x.c.toNat []).length) 0
def sampR (x : Pc) (at_ : Nat) (l : List Int) (n : Nat) : List UInt8 := (List.range n).map (sampC x at_ l)
def sampS (l : List Int) (st : List UInt8 × Nat) (x : Pc) : List UInt8 × Nat := if x.c = 0 then (st.1 ++ x.t, st.2) else (st.1 ++ sampR x (st.2 + 1) l (sampN x st.2 l), st.2 + 1)
def sampP (p : List Pc) (l : List Int) : List UInt8 × Nat := p.foldl (sampS l) ([], 0)
def sampleL (p : List Pc) (l : List Int) : List UInt8 := (sampP p l).1

theorem sampP_snoc (p : List Pc) (x : Pc) (l : List Int) : sampP (p ++ [x]) l = sampS l (sampP p l) x := by simp [sampP]
theorem sampR_succ (x : Pc) (a : Nat) (l : List Int) (n : Nat) : sampR x a l (n + 1) = sampR x a l n ++ [sampC x a l n] := by simp [sampR, List.range_succ]

def charsGood (c : Nat) : Prop := 0 < (charsOf.getD c []).length ∧ (charsOf.getD c []).length ≤ 5 ∧ ∀ u ∈ charsOf.getD c [], cin (cls u) c = true ∧ cin (cls u) 7 = true
theorem chars_ok {c : Nat} (h0 : 0 < c) (h1 : c ≤ 7) : charsGood c := by
  have : c = 1 ∨ c = 2 ∨ c = 3 ∨ c = 4 ∨ c = 5 ∨ c = 6 ∨ c = 7 := by omega
  rcases this with rfl | rfl | rfl | rfl | rfl | rfl | rfl <;> exact ⟨by decide, by decide, by decide⟩

theorem sampC_ok {x : Pc} (hx : runB x = true) (a : Nat) (l : List Int) (k : Nat) : cin (cls (sampC x a l k)) x.c = true ∧ cin (cls (sampC x a l k)) 7 = true := by
  obtain ⟨h1, h2, _⟩ := runB_iff.1 hx
  obtain ⟨g0, _, g1⟩ := chars_ok (c := x.c.toNat) (by omega) (by omega)
  unfold sampC
  have hlt := Nat.mod_lt (sampX a l k) g0
  have e : (charsOf.getD x.c.toNat []).getD (sampX a l k % (charsOf.getD x.c.toNat []).length) 0 = (charsOf.getD x.c.toNat [])[sampX a l k % (charsOf.getD x.c.toNat []).length] := by
    rw [List.getD_eq_getElem?_getD, List.getElem?_eq_getElem hlt]; rfl
  rw [e]
  have := g1 _ (List.getElem_mem hlt)
  rw [show ((x.c.toNat : Nat) : Int) = x.c by omega] at this
  exact this

theorem sampR_fit {x : Pc} (hx : runB x = true) (a b : Nat) (l : List Int) : Fit x (sampR x b l (sampN x a l)) ∧ allB (sampR x b l (sampN x a l)) 7 = true := by
  obtain ⟨h1, h2, h3, h4, h5, h6, h7⟩ := runB_iff.1 hx
  have hl : (sampR x b l (sampN x a l)).length = sampN x a l := by simp [sampR]
  have hn : x.l ≤ (sampN x a l : Int) ∧ (sampN x a l : Int) ≤ x.m := by
    unfold sampN
    split
    · have := Int.emod_nonneg (l.getD a 0) (show (3 : Int) ≠ 0 by omega)
      omega
    · omega
  refine ⟨?_, ?_⟩
  · unfold Fit
    rw [if_neg (by omega), hl]
    refine ⟨hn.1, hn.2, ?_⟩
    unfold allB sampR
    rw [List.all_eq_true]
    intro c hc
    obtain ⟨k, _, rfl⟩ := List.mem_map.1 hc
    exact (sampC_ok hx b l k).1
  · unfold allB sampR
    rw [List.all_eq_true]
    intro c hc
    obtain ⟨k, _, rfl⟩ := List.mem_map.1 hc
    exact (sampC_ok hx b l k).2

theorem sample_dec (l : List Int) (p : List Pc) (h : ∀ x ∈ p, runB x = true ∨ plainB x = true) : Dec p (sampleL p l) ∧ allB (sampleL p l) 7 = true := by
  induction hn : p.length generalizing p with
  | zero =>
    obtain rfl := List.length_eq_zero_iff.1 hn
    exact ⟨rfl, rfl⟩
  | succ n ih =>
    rcases List.eq_nil_or_concat p with rfl | ⟨q, x, rfl⟩
    · simp at hn
    rw [List.concat_eq_append] at *
    obtain ⟨i1, i2⟩ := ih q (fun y hy => h y (List.mem_append_left _ hy)) (by simpa using hn)
    have hx := h x (by simp)
    have e : sampleL (q ++ [x]) l = (sampS l (sampP q l) x).1 := by unfold sampleL; rw [sampP_snoc]
    rw [e]
    unfold sampS
    by_cases hc : x.c = 0
    · rw [if_pos hc]
      have hp := hx.resolve_left (fun h2 => by have := (runB_iff.1 h2).1; omega)
      obtain ⟨q1, q2, q3, q4, q5⟩ := plainB_iff.1 hp
      refine ⟨(dec_append _ _ _).2 ⟨_, _, rfl, i1, (dec_one _ _).2 ?_⟩, ?_⟩
      · unfold Fit; rw [if_pos hc]
      · dsimp only
        rw [allB_append]
        unfold sampleL at i2
        rw [i2, q5]; rfl
    · rw [if_neg hc]
      have hr := hx.resolve_right (fun h2 => hc (plainB_iff.1 h2).1)
      obtain ⟨f1, f2⟩ := sampR_fit hr (sampP q l).2 ((sampP q l).2 + 1) l
      refine ⟨(dec_append _ _ _).2 ⟨_, _, rfl, i1, (dec_one _ _).2 f1⟩, ?_⟩
      dsimp only
      rw [allB_append]
      unfold sampleL at i2
      rw [i2, f2]; rfl

theorem sample_len (l : List Int) (B : Nat) (p : List Pc) (h : ∀ x ∈ p, MadeP B x) : (sampleL p l).length ≤ p.length * (B + 4) ∧ (sampP p l).2 ≤ p.length := by
  induction hn : p.length generalizing p with
  | zero =>
    obtain rfl := List.length_eq_zero_iff.1 hn
    exact ⟨Nat.zero_le _, Nat.le_refl _⟩
  | succ n ih =>
    rcases List.eq_nil_or_concat p with rfl | ⟨q, x, rfl⟩
    · simp at hn
    rw [List.concat_eq_append] at *
    have hq : q.length = n := by simpa using hn
    obtain ⟨i1, i2⟩ := ih q (fun y hy => h y (List.mem_append_left _ hy)) hq
    have hx := h x (by simp)
    have e : sampleL (q ++ [x]) l = (sampS l (sampP q l) x).1 := by unfold sampleL; rw [sampP_snoc]
    rw [e, sampP_snoc]
    unfold sampS
    unfold sampleL at i1
    rw [Nat.add_mul, Nat.one_mul]
    by_cases hc : x.c = 0
    · rw [if_pos hc]
      dsimp only
      rw [List.length_append]
      have := hx.2
      exact ⟨by omega, by omega⟩
    · rw [if_neg hc]
      dsimp only
      rw [List.length_append]
      have hr := hx.1.resolve_right (fun h2 => hc (plainB_iff.1 h2).1)
      have hsl : (sampR x ((sampP q l).2 + 1) l (sampN x (sampP q l).2 l)).length = sampN x (sampP q l).2 l := by simp [sampR]
      have hsn : sampN x (sampP q l).2 l ≤ 4 := by
        unfold sampN
        split
        · have := Int.emod_lt_of_pos (l.getD (sampP q l).2 0) (show (0 : Int) < 3 by omega)
          omega
        · omega
      rw [hsl]
      exact ⟨by omega, by omega⟩

/-- A text that is made of parts for each piece is matched. -/
theorem sample_match {l : List Int} {p : List Pc} (h : rightB p = true) (hl : (sampleL p l).length ≤ 200) : matchB p (sampleL p l) = true := by
  obtain ⟨h1, h2⟩ := sample_dec l p (fun x hx => right_mem h hx)
  exact (matchB_iff _ _).2 ⟨h, by unfold textB; simp [hl, h2], h1⟩

end Go.Proofs.YtddjbfmohibgbaaDoor
