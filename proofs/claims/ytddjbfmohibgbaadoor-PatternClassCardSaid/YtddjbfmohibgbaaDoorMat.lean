/- Matching, in plain words: where a piece can end, what a pattern reaches. No program is looked at. -/
import Derived.Test.YtddjbfmohibgbaaDoorLaw
namespace Go.Proofs.YtddjbfmohibgbaaDoor

/-- Where a run that begins at k can end, from the n-th character on. -/
def runL (x : Pc) (s : List UInt8) (k : Nat) : Nat → Nat → List Nat
  | 0, _ => []
  | f + 1, n => if (n : Int) ≤ x.m ∧ k + n ≤ s.length then
      (if 0 < n ∧ cin (cls (s.getD (k + n - 1) 0)) x.c = false then []
       else (if x.l ≤ (n : Int) then [k + n] else []) ++ runL x s k f (n + 1))
    else []

/-- Where a piece that begins at k can end. -/
def endsL (x : Pc) (s : List UInt8) (k : Nat) : List Nat :=
  if x.c = 0 then (if x.t.isPrefixOf (s.drop k) then [k + x.t.length] else []) else runL x s k (s.length + 2) 0

def marks (l : List Nat) (b : List Bool) : List Bool := l.foldl (fun a e => a.set e true) b

/-- The offsets that are reached from those of now, the first k of them looked at. -/
def stepF (x : Pc) (s : List UInt8) (now : List Bool) (k : Nat) : List Bool :=
  (List.range k).foldl (fun a i => if now.getD i false then marks (endsL x s i) a else a) (List.replicate (s.length + 1) false)
def stepL (x : Pc) (s : List UInt8) (now : List Bool) : List Bool := stepF x s now (s.length + 1)
def reachL (p : List Pc) (s : List UInt8) (from_ : Nat) : List Bool := p.foldl (fun a x => stepL x s a) ((List.replicate (s.length + 1) false).set from_ true)
def matchB (p : List Pc) (s : List UInt8) : Bool := rightB p && textB s && (reachL p s 0).getD s.length false

theorem length_marks (l : List Nat) : ∀ b, (marks l b).length = b.length := by
  induction l with
  | nil => intro b; rfl
  | cons e l ih => intro b; show (marks l (b.set e true)).length = _; rw [ih, List.length_set]
theorem marks_snoc (l : List Nat) (e : Nat) (b : List Bool) : marks (l ++ [e]) b = (marks l b).set e true := by simp [marks]
theorem stepF_succ (x : Pc) (s : List UInt8) (now : List Bool) (k : Nat) : stepF x s now (k + 1) = if now.getD k false then marks (endsL x s k) (stepF x s now k) else stepF x s now k := by
  unfold stepF
  rw [List.range_succ, List.foldl_append]
  rfl
theorem length_stepF (x : Pc) (s : List UInt8) (now : List Bool) : ∀ k, (stepF x s now k).length = s.length + 1
  | 0 => by simp [stepF]
  | k + 1 => by
    rw [stepF_succ]
    split
    · rw [length_marks, length_stepF x s now k]
    · exact length_stepF x s now k
theorem reachL_snoc (p : List Pc) (x : Pc) (s : List UInt8) (f : Nat) : reachL (p ++ [x]) s f = stepL x s (reachL p s f) := by simp [reachL]
theorem length_reachL (p : List Pc) (s : List UInt8) (f : Nat) : (reachL p s f).length = s.length + 1 := by
  rcases List.eq_nil_or_concat p with rfl | ⟨q, x, rfl⟩
  · simp [reachL]
  · rw [List.concat_eq_append, reachL_snoc]; exact length_stepF _ _ _ _

theorem runL_le (x : Pc) (s : List UInt8) (k : Nat) : ∀ f n e, e ∈ runL x s k f n → e ≤ s.length
  | 0, _, _, h => by cases h
  | f + 1, n, e, h => by
    rw [runL] at h
    split at h
    · split at h
      · cases h
      · rw [List.mem_append] at h
        rcases h with h | h
        · split at h
          · simp at h; omega
          · cases h
        · exact runL_le x s k f (n + 1) e h
    · cases h
theorem prefix_le {t s : List UInt8} {k : Nat} (h : t.isPrefixOf (s.drop k) = true) (hk : k ≤ s.length) : k + t.length ≤ s.length := by
  have := (List.isPrefixOf_iff_prefix.1 h).length_le
  rw [List.length_drop] at this
  omega
theorem endsL_le (x : Pc) (s : List UInt8) (k : Nat) (hk : k ≤ s.length) (e : Nat) (h : e ∈ endsL x s k) : e ≤ s.length := by
  unfold endsL at h
  split at h
  · split at h
    · rename_i h2
      simp at h
      have := prefix_le h2 hk
      omega
    · cases h
  · exact runL_le _ _ _ _ _ _ h
theorem runL_len (x : Pc) (s : List UInt8) (k : Nat) : ∀ f n, (runL x s k f n).length ≤ f
  | 0, _ => by simp [runL]
  | f + 1, n => by
    have := runL_len x s k f (n + 1)
    rw [runL]
    split
    · split
      · simp
      · rw [List.length_append]
        split <;> simp <;> omega
    · simp
theorem endsL_len (x : Pc) (s : List UInt8) (k : Nat) : (endsL x s k).length ≤ s.length + 2 := by
  unfold endsL
  split
  · split <;> simp
  · exact runL_len _ _ _ _ _

theorem runL_stop {x : Pc} {s : List UInt8} {k f n : Nat} (h : ¬ ((n : Int) ≤ x.m ∧ k + n ≤ s.length)) : runL x s k f n = [] := by
  cases f with
  | zero => rfl
  | succ f => rw [runL, if_neg h]
theorem runL_bad {x : Pc} {s : List UInt8} {k f n : Nat} (h : 0 < n ∧ cin (cls (s.getD (k + n - 1) 0)) x.c = false) : runL x s k f n = [] := by
  cases f with
  | zero => rfl
  | succ f =>
    by_cases h0 : (n : Int) ≤ x.m ∧ k + n ≤ s.length
    · rw [runL, if_pos h0, if_pos h]
    · rw [runL, if_neg h0]
theorem runL_go {x : Pc} {s : List UInt8} {k f n : Nat} (h : (n : Int) ≤ x.m ∧ k + n ≤ s.length) (h2 : ¬ (0 < n ∧ cin (cls (s.getD (k + n - 1) 0)) x.c = false)) : runL x s k (f + 1) n = (if x.l ≤ (n : Int) then [k + n] else []) ++ runL x s k f (n + 1) := by
  rw [runL, if_pos h, if_neg h2]

example : matchB [⟨2, 1, 1, []⟩, ⟨3, 0, 200, []⟩] [65, 98] = true := by decide
example : matchB [⟨2, 1, 1, []⟩, ⟨3, 0, 200, []⟩] [65, 66] = false := by decide

end Go.Proofs.YtddjbfmohibgbaaDoor
