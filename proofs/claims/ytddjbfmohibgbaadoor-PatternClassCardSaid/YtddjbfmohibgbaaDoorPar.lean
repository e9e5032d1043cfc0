/- Reading a pattern, in plain words. No program is looked at. -/
import Derived.Test.YtddjbfmohibgbaaDoorLaw
namespace Go.Proofs.YtddjbfmohibgbaaDoor

/-- What a reading function gives: a value, or the place and the number of an error. -/
abbrev PR (α : Type) := Except (Nat × Nat) α

/-- The byte at an offset; 0 at the end. -/
def peekL (s : List UInt8) (k : Nat) : UInt8 := s.getD k 0
def isD (c : UInt8) : Bool := decide (48 ≤ c.toNat) && decide (c.toNat ≤ 57)

/-- A number: the string, where it begins, steps left, the place, what is read so far. -/
def numF (s : List UInt8) (fr : Nat) : Nat → Nat → Nat → PR (Nat × Nat)
  | 0, k, n => if k = fr then .error (k, 12) else .ok (n, k)
  | f + 1, k, n =>
    if isD (peekL s k) then (if k = fr + 1 ∧ (peekL s fr).toNat = 48 then .error (k, 12) else numF s fr f (k + 1) (min (10 * n + ((peekL s k).toNat - 48)) 201))
    else if k = fr then .error (k, 12) else .ok (n, k)
/-- A number from an offset on. -/
def numL (s : List UInt8) (k : Nat) : PR (Nat × Nat) := numF s k (s.length - k) k 0

/-- A count in braces behind the first number. -/
def endB (s : List UInt8) (op n m k : Nat) : PR ((Nat × Nat) × Nat) :=
  if (peekL s k).toNat = 125 then (if n > m ∨ m < 1 ∨ m > 200 then .error (op, 3) else .ok ((n, m), k + 1)) else .error (k, 12)
def bracesL (s : List UInt8) (op : Nat) : PR ((Nat × Nat) × Nat) :=
  match numL s (op + 1) with
  | .error e => .error e
  | .ok (n, k) =>
    if (peekL s k).toNat = 44 then
      match numL s (k + 1) with
      | .error e => .error e
      | .ok (m, k2) => endB s op n m k2
    else endB s op n n k

/-- The counts behind a class's letter, and the place. -/
def cntL (s : List UInt8) (k : Nat) : PR ((Nat × Nat) × Nat) :=
  if (peekL s k).toNat = 43 then .ok ((1, 200), k + 1)
  else if (peekL s k).toNat = 42 then .ok ((0, 200), k + 1)
  else if (peekL s k).toNat = 123 then bracesL s k
  else .ok ((1, 1), k)

/-- Where a byte stands in a list; -1 if it does not. -/
def idxF : List UInt8 → UInt8 → Int → Int
  | [], _, _ => -1
  | a :: l, c, k => if a = c then k else idxF l c (k + 1)
/-- The class of a letter; 0 if there is none. -/
def nameN (c : UInt8) : Int := idxF names c 0 + 1

/-- A literal's byte put behind the pieces. -/
def addC (p : List Pc) (c : UInt8) : List Pc :=
  match p.getLast? with
  | some x => if x.c = 0 then p.dropLast ++ [{ x with t := x.t ++ [c] }] else p ++ [⟨0, 0, 0, [c]⟩]
  | none => [⟨0, 0, 0, [c]⟩]

/-- One round: what stands at an offset. -/
def stepP (s : List UInt8) (k : Nat) (p : List Pc) : PR (Nat × List Pc) :=
  if (peekL s k).toNat = 92 then
    if 0 < nameN (peekL s (k + 1)) then
      match cntL s (k + 2) with
      | .error e => .error e
      | .ok ((l, m), k2) => .ok (k2, p ++ [⟨nameN (peekL s (k + 1)), l, m, []⟩])
    else if special (peekL s (k + 1)) then .ok (k + 2, addC p (peekL s (k + 1)))
    else .error (k + 1, 12)
  else if cls (peekL s k) = 0 ∨ special (peekL s k) = true then .error (k, 12)
  else .ok (k + 1, addC p (peekL s k))

/-- All rounds. -/
def piecesF (s : List UInt8) : Nat → Nat → List Pc → PR (List Pc)
  | 0, _, p => .ok p
  | f + 1, k, p =>
    if k < s.length then
      match stepP s k p with
      | .error e => .error e
      | .ok (k2, p2) => piecesF s f k2 p2
    else .ok p
def parseL (s : List UInt8) : PR (List Pc) := if 60 < s.length then .error (0, 2) else piecesF s s.length 0 []

theorem numF_mono {s : List UInt8} {fr : Nat} : ∀ (f k n : Nat) {m k2 : Nat}, numF s fr f k n = .ok (m, k2) → k ≤ k2 ∧ k2 ≤ k + f ∧ fr < k2 ∨ k < fr
  | 0, k, n, m, k2, h => by
    unfold numF at h
    split at h
    · cases h
    · cases h; omega
  | f + 1, k, n, m, k2, h => by
    unfold numF at h
    split at h
    · split at h
      · cases h
      · have := numF_mono f (k + 1) _ h
        omega
    · split at h
      · cases h
      · cases h; omega

theorem numF_le {s : List UInt8} {fr : Nat} : ∀ (f k n : Nat) {m k2 : Nat}, n ≤ 201 → numF s fr f k n = .ok (m, k2) → m ≤ 201
  | 0, k, n, m, k2, hn, h => by
    unfold numF at h
    split at h
    · cases h
    · cases h; omega
  | f + 1, k, n, m, k2, hn, h => by
    unfold numF at h
    split at h
    · split at h
      · cases h
      · exact numF_le f (k + 1) _ (by omega) h
    · split at h
      · cases h
      · cases h; omega

theorem numL_ok {s : List UInt8} {k n k2 : Nat} (hk : k ≤ s.length) (h : numL s k = .ok (n, k2)) : k < k2 ∧ k2 ≤ s.length ∧ n ≤ 201 := by
  have h1 := numF_mono _ _ _ h
  have h2 := numF_le _ _ _ (by omega) h
  omega

theorem peekL_some {s : List UInt8} {k : Nat} (h : peekL s k ≠ 0) : k < s.length := by
  rcases Nat.lt_or_ge k s.length with h1 | h1
  · exact h1
  · exact absurd (by unfold peekL; simp [List.getD, List.getElem?_eq_none h1]) h

theorem bracesL_ok {s : List UInt8} {k n m k2 : Nat} (hk : k < s.length) (h : bracesL s k = .ok ((n, m), k2)) : k < k2 ∧ k2 ≤ s.length ∧ n ≤ m ∧ 1 ≤ m ∧ m ≤ 200 := by
  have hend : ∀ {n m k1 : Nat}, k < k1 → endB s k n m k1 = .ok ((n, m), k2) → k < k2 ∧ k2 ≤ s.length ∧ n ≤ m ∧ 1 ≤ m ∧ m ≤ 200 := fun {n m k1} h1 h2 => by
    unfold endB at h2
    split at h2
    · rename_i h3
      split at h2
      · cases h2
      · cases h2
        have := peekL_some (s := s) (k := k1) (fun e => by rw [e] at h3; exact absurd h3 (by decide))
        omega
    · cases h2
  have hnm : ∀ {a b k1 : Nat}, endB s k a b k1 = .ok ((n, m), k2) → a = n ∧ b = m := fun {a b k1} h2 => by
    unfold endB at h2
    split at h2
    · split at h2
      · cases h2
      · cases h2; exact ⟨rfl, rfl⟩
    · cases h2
  unfold bracesL at h
  split at h
  · cases h
  · rename_i a k1 h1
    have e1 := numL_ok (by omega) h1
    split at h
    · rename_i hc
      have hl := peekL_some (s := s) (k := k1) (fun e => by rw [e] at hc; exact absurd hc (by decide))
      split at h
      · cases h
      · rename_i b k3 h3
        have e3 := numL_ok (by omega) h3
        obtain ⟨rfl, rfl⟩ := hnm h
        exact hend (by omega) h
    · obtain ⟨rfl, rfl⟩ := hnm h
      exact hend (by omega) h

end Go.Proofs.YtddjbfmohibgbaaDoor
