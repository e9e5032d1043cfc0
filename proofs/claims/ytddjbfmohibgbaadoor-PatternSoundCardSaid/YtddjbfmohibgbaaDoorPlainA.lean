/- Chapter 05: plain laws: pieces, matching, covering, reading, finds, makers. -/


/- The plain words of patterns: pieces, classes, right patterns, written forms. No program is looked at. -/
namespace Go.Proofs.YtddjbfmohibgbaaDoor

/-- A piece: its class, its least and its greatest count, its text. -/
structure Pc where
  c : Int
  l : Int
  m : Int
  t : List UInt8

/-- The class of a byte. -/
def clsN (n : Nat) : Int :=
  if n < 32 ∨ 126 < n then 0
  else if 48 ≤ n ∧ n ≤ 57 then 1
  else if 65 ≤ n ∧ n ≤ 90 then 2
  else if 97 ≤ n ∧ n ≤ 122 then 3
  else if n = 32 then 5 else 6
def cls (c : UInt8) : Int := clsN c.toNat

/-- The class a lies in the class k. -/
def cin (a k : Int) : Bool := decide (0 < a) && (decide (a = k) || decide (k = 7) || (decide (k = 4) && (decide (a = 2) || decide (a = 3))))

def allB (s : List UInt8) (k : Int) : Bool := s.all fun c => cin (cls c) k
def textB (s : List UInt8) : Bool := decide (s.length ≤ 200) && allB s 7

def runB (x : Pc) : Bool := decide (0 < x.c) && decide (x.c ≤ 7) && decide (0 ≤ x.l) && decide (x.l ≤ x.m) && decide (0 < x.m) && decide (x.m ≤ 200) && decide (x.t = [])
def plainB (x : Pc) : Bool := decide (x.c = 0) && decide (x.l = 0) && decide (x.m = 0) && decide (x.t ≠ []) && allB x.t 7

/-- All pieces are right, and no two literals stand side by side; b: a literal stands ahead. -/
def okFrom : Bool → List Pc → Bool
  | _, [] => true
  | b, x :: p => (runB x || plainB x) && !(plainB x && b) && okFrom (plainB x) p

/-- A digit. -/
def dig (n : Nat) : UInt8 := UInt8.ofNat (48 + n)
/-- A number below 1000 in decimal. -/
def dec (n : Nat) : List UInt8 :=
  if n < 10 then [dig n]
  else if n < 100 then [dig (n / 10), dig (n % 10)]
  else [dig (n / 100), dig (n / 10 % 10), dig (n % 10)]

def countS (x : Pc) : List UInt8 :=
  if x.l = 1 ∧ x.m = 1 then []
  else if x.l = 1 ∧ x.m = 200 then [43]
  else if x.l = 0 ∧ x.m = 200 then [42]
  else if x.l = x.m then 123 :: (dec x.l.toNat ++ [125])
  else 123 :: (dec x.l.toNat ++ (44 :: (dec x.m.toNat ++ [125])))

def special (c : UInt8) : Bool := c == 92 || c == 123 || c == 125 || c == 43 || c == 42
/-- The letters of the classes. -/
def names : List UInt8 := [100, 117, 108, 97, 115, 111, 46]
def litS (s : List UInt8) : List UInt8 := s.flatMap fun c => if special c then [92, c] else [c]
def pieceS (x : Pc) : List UInt8 := if 0 < x.c then 92 :: names.getD (x.c.toNat - 1) 0 :: countS x else litS x.t
def writtenS (p : List Pc) : List UInt8 := p.flatMap pieceS
def rightB (p : List Pc) : Bool := okFrom false p && decide (p.length ≤ 60) && decide ((writtenS p).length ≤ 60)
def printS (p : List Pc) : List UInt8 := if rightB p then writtenS p else []

theorem cls_rng (c : UInt8) : 0 ≤ cls c ∧ cls c ≤ 6 := by
  unfold cls clsN
  repeat' split
  all_goals omega

theorem allB_cons (c : UInt8) (s : List UInt8) (k : Int) : allB (c :: s) k = (cin (cls c) k && allB s k) := rfl
theorem allB_take_succ (s : List UInt8) (k : Nat) (h : k < s.length) (g : Int) : allB (s.take (k + 1)) g = (allB (s.take k) g && cin (cls s[k]) g) := by
  unfold allB
  rw [List.take_succ_eq_append_getElem h, List.all_append]
  simp

theorem allB_false {s : List UInt8} {k : Nat} {g : Int} (h : k < s.length) (hc : cin (cls s[k]) g = false) : allB s g = false := by
  unfold allB
  rw [List.all_eq_false]
  exact ⟨s[k], List.getElem_mem h, by simp [hc]⟩

theorem length_dec (n : Nat) : (dec n).length ≤ 3 := by
  unfold dec
  split
  · simp
  · split <;> simp
theorem length_countS (x : Pc) : (countS x).length ≤ 9 := by
  have h1 := length_dec x.l.toNat
  have h2 := length_dec x.m.toNat
  unfold countS
  repeat' split
  all_goals simp
  all_goals omega
theorem length_litS (s : List UInt8) : (litS s).length ≤ 2 * s.length := by
  induction s with
  | nil => simp [litS]
  | cons c s ih =>
    have : litS (c :: s) = (if special c then [92, c] else [c]) ++ litS s := rfl
    rw [this, List.length_append]
    split <;> simp <;> omega
theorem length_pieceS (x : Pc) : (pieceS x).length ≤ 11 + 2 * x.t.length := by
  have h1 := length_countS x
  have h2 := length_litS x.t
  unfold pieceS
  split
  · simp; omega
  · omega
theorem writtenS_snoc (p : List Pc) (x : Pc) : writtenS (p ++ [x]) = writtenS p ++ pieceS x := by simp [writtenS]
theorem litS_snoc (s : List UInt8) (c : UInt8) : litS (s ++ [c]) = litS s ++ (if special c then [92, c] else [c]) := by simp [litS]
theorem writtenS_len (B : Nat) : ∀ (p : List Pc), (∀ x ∈ p, x.t.length ≤ B) → (writtenS p).length ≤ p.length * (11 + 2 * B)
  | [], _ => by simp [writtenS]
  | x :: p, h => by
    have h1 := writtenS_len B p (fun y hy => h y (List.mem_cons_of_mem _ hy))
    have h2 := length_pieceS x
    have h3 := h x List.mem_cons_self
    have e : writtenS (x :: p) = pieceS x ++ writtenS p := rfl
    rw [e, List.length_append, List.length_cons, Nat.add_mul, Nat.one_mul]
    omega

theorem runB_iff {x : Pc} : runB x = true ↔ 0 < x.c ∧ x.c ≤ 7 ∧ 0 ≤ x.l ∧ x.l ≤ x.m ∧ 0 < x.m ∧ x.m ≤ 200 ∧ x.t = [] := by
  simp [runB, and_assoc]
theorem plainB_iff {x : Pc} : plainB x = true ↔ x.c = 0 ∧ x.l = 0 ∧ x.m = 0 ∧ x.t ≠ [] ∧ allB x.t 7 = true := by
  simp [plainB, and_assoc]

/-- Whether a literal stands last. -/
def litAt : Bool → List Pc → Bool
  | b, [] => b
  | _, x :: p => litAt (plainB x) p

theorem litAt_snoc (b : Bool) (p : List Pc) (x : Pc) : litAt b (p ++ [x]) = plainB x := by
  induction p generalizing b with
  | nil => rfl
  | cons y p ih => exact ih _

/-- What the loop over the pieces has seen: all was right so far. -/
theorem okFrom_snoc (b : Bool) (p : List Pc) (x : Pc) : okFrom b (p ++ [x]) = (okFrom b p && ((runB x || plainB x) && !(plainB x && litAt b p))) := by
  induction p generalizing b with
  | nil => simp [okFrom, litAt]
  | cons y p ih =>
    rw [List.cons_append]
    simp only [okFrom, litAt]
    rw [ih, ← Bool.and_assoc]

theorem okFrom_prefix {b : Bool} {p q : List Pc} (h : okFrom b (p ++ q) = true) : okFrom b p = true := by
  induction p generalizing b with
  | nil => rfl
  | cons y p ih =>
    rw [List.cons_append] at h
    simp only [okFrom, Bool.and_eq_true] at h ⊢
    exact ⟨h.1, ih h.2⟩

theorem okFrom_mem {b : Bool} {p : List Pc} (h : okFrom b p = true) {x : Pc} (hx : x ∈ p) : runB x = true ∨ plainB x = true := by
  induction p generalizing b with
  | nil => cases hx
  | cons y p ih =>
    simp only [okFrom, Bool.and_eq_true, Bool.or_eq_true] at h
    rcases List.mem_cons.1 hx with rfl | hx
    · exact h.1.1
    · exact ih h.2 hx

end Go.Proofs.YtddjbfmohibgbaaDoor

/- Matching, in plain words: where a piece can end, what a pattern reaches. No program is looked at. -/
namespace Go.Proofs.YtddjbfmohibgbaaDoor

/-- Where a run that begins at k can end, from the n-th character on. -/
def runL (x : Pc) (s : List UInt8) (k : Nat) : Nat → Nat → List Nat
  | 0, _ => []
  | f + 1, n => if (n : Int) ≤ x.m ∧ k + n ≤ s.length then
      (if 0 < n ∧ cin (cls (s.getD (k + n - 1) 0)) x.c = false then []
       else (if x.l ≤ (n : Int) then [k + n] else []) ++ runL x s k f (n + 1))
    else []

/-- Where a piece that begins at k can end. -/
def endsL (x : Pc) (s : List UInt8) (k : Nat) : List Nat :=
  if x.c = 0 then (if x.t.isPrefixOf (s.drop k) then [k + x.t.length] else []) else runL x s k (s.length + 2) 0

def marks (l : List Nat) (b : List Bool) : List Bool := l.foldl (fun a e => a.set e true) b

/-- The offsets that are reached from those of now, the first k of them looked at. -/
def stepF (x : Pc) (s : List UInt8) (now : List Bool) (k : Nat) : List Bool :=
  (List.range k).foldl (fun a i => if now.getD i false then marks (endsL x s i) a else a) (List.replicate (s.length + 1) false)
def stepL (x : Pc) (s : List UInt8) (now : List Bool) : List Bool := stepF x s now (s.length + 1)
def reachL (p : List Pc) (s : List UInt8) (from_ : Nat) : List Bool := p.foldl (fun a x => stepL x s a) ((List.replicate (s.length + 1) false).set from_ true)
def matchB (p : List Pc) (s : List UInt8) : Bool := rightB p && textB s && (reachL p s 0).getD s.length false

theorem length_marks (l : List Nat) : ∀ b, (marks l b).length = b.length := by
  induction l with
  | nil => intro b; rfl
  | cons e l ih => intro b; show (marks l (b.set e true)).length = _; rw [ih, List.length_set]
theorem marks_snoc (l : List Nat) (e : Nat) (b : List Bool) : marks (l ++ [e]) b = (marks l b).set e true := by simp [marks]
theorem stepF_succ (x : Pc) (s : List UInt8) (now : List Bool) (k : Nat) : stepF x s now (k + 1) = if now.getD k false then marks (endsL x s k) (stepF x s now k) else stepF x s now k := by
  unfold stepF
  rw [List.range_succ, List.foldl_append]
  rfl
theorem length_stepF (x : Pc) (s : List UInt8) (now : List Bool) : ∀ k, (stepF x s now k).length = s.length + 1
  | 0 => by simp [stepF]
  | k + 1 => by
    rw [stepF_succ]
    split
    · rw [length_marks, length_stepF x s now k]
    · exact length_stepF x s now k
theorem reachL_snoc (p : List Pc) (x : Pc) (s : List UInt8) (f : Nat) : reachL (p ++ [x]) s f = stepL x s (reachL p s f) := by simp [reachL]
theorem length_reachL (p : List Pc) (s : List UInt8) (f : Nat) : (reachL p s f).length = s.length + 1 := by
  rcases List.eq_nil_or_concat p with rfl | ⟨q, x, rfl⟩
  · simp [reachL]
  · rw [List.concat_eq_append, reachL_snoc]; exact length_stepF _ _ _ _

theorem runL_le (x : Pc) (s : List UInt8) (k : Nat) : ∀ f n e, e ∈ runL x s k f n → e ≤ s.length
  | 0, _, _, h => by cases h
  | f + 1, n, e, h => by
    rw [runL] at h
    split at h
    · split at h
      · cases h
      · rw [List.mem_append] at h
        rcases h with h | h
        · split at h
          · simp at h; omega
          · cases h
        · exact runL_le x s k f (n + 1) e h
    · cases h
theorem prefix_le {t s : List UInt8} {k : Nat} (h : t.isPrefixOf (s.drop k) = true) (hk : k ≤ s.length) : k + t.length ≤ s.length := by
  have := (List.isPrefixOf_iff_prefix.1 h).length_le
  rw [List.length_drop] at this
  omega
theorem endsL_le (x : Pc) (s : List UInt8) (k : Nat) (hk : k ≤ s.length) (e : Nat) (h : e ∈ endsL x s k) : e ≤ s.length := by
  unfold endsL at h
  split at h
  · split at h
    · rename_i h2
      simp at h
      have := prefix_le h2 hk
      omega
    · cases h
  · exact runL_le _ _ _ _ _ _ h
theorem runL_len (x : Pc) (s : List UInt8) (k : Nat) : ∀ f n, (runL x s k f n).length ≤ f
  | 0, _ => by simp [runL]
  | f + 1, n => by
    have := runL_len x s k f (n + 1)
    rw [runL]
    split
    · split
      · simp
      · rw [List.length_append]
        split <;> simp <;> omega
    · simp
theorem endsL_len (x : Pc) (s : List UInt8) (k : Nat) : (endsL x s k).length ≤ s.length + 2 := by
  unfold endsL
  split
  · split <;> simp
  · exact runL_len _ _ _ _ _

theorem runL_stop {x : Pc} {s : List UInt8} {k f n : Nat} (h : ¬ ((n : Int) ≤ x.m ∧ k + n ≤ s.length)) : runL x s k f n = [] := by
  cases f with
  | zero => rfl
  | succ f => rw [runL, if_neg h]
theorem runL_bad {x : Pc} {s : List UInt8} {k f n : Nat} (h : 0 < n ∧ cin (cls (s.getD (k + n - 1) 0)) x.c = false) : runL x s k f n = [] := by
  cases f with
  | zero => rfl
  | succ f =>
    by_cases h0 : (n : Int) ≤ x.m ∧ k + n ≤ s.length
    · rw [runL, if_pos h0, if_pos h]
    · rw [runL, if_neg h0]
theorem runL_go {x : Pc} {s : List UInt8} {k f n : Nat} (h : (n : Int) ≤ x.m ∧ k + n ≤ s.length) (h2 : ¬ (0 < n ∧ cin (cls (s.getD (k + n - 1) 0)) x.c = false)) : runL x s k (f + 1) n = (if x.l ≤ (n : Int) then [k + n] else []) ++ runL x s k f (n + 1) := by
  rw [runL, if_pos h, if_neg h2]

example : matchB [⟨2, 1, 1, []⟩, ⟨3, 0, 200, []⟩] [65, 98] = true := by decide
example : matchB [⟨2, 1, 1, []⟩, ⟨3, 0, 200, []⟩] [65, 66] = false := by decide

end Go.Proofs.YtddjbfmohibgbaaDoor

/- Covering, in plain words. No program is looked at. -/
namespace Go.Proofs.YtddjbfmohibgbaaDoor

def insideB (x : Pc) (k : Int) : Bool := if x.c = 0 then allB x.t k else cin x.c k
def sizeA (x : Pc) : Int := if x.c = 0 then x.t.length else x.l
def sizeZ (x : Pc) : Int := if x.c = 0 then x.t.length else x.m
def coversB (a b : Pc) : Bool := if a.c = 0 then decide (b.c = 0) && decide (a.t = b.t) else insideB b a.c && decide (a.l ≤ sizeA b) && decide (sizeZ b ≤ a.m)
def pairB : List Pc → List Pc → Bool
  | [], [] => true
  | a :: p, b :: q => coversB a b && pairB p q
  | _, _ => false
def sumA (q : List Pc) : Int := (q.map sizeA).sum
def sumZ (q : List Pc) : Int := (q.map sizeZ).sum
def oneB (p q : List Pc) : Bool := match p with
  | [a] => !decide (a.c = 0) && q.all (fun x => insideB x a.c) && decide (a.l ≤ sumA q) && decide (min (sumZ q) 200 ≤ a.m)
  | _ => false
def coverB (p q : List Pc) : Bool := rightB p && rightB q && (pairB p q || oneB p q)

theorem pairB_len : ∀ {p q : List Pc}, p.length ≠ q.length → pairB p q = false
  | [], [], h => absurd rfl h
  | [], _ :: _, _ => rfl
  | _ :: _, [], _ => rfl
  | a :: p, b :: q, h => by
    unfold pairB
    rw [pairB_len (fun e => h (by simp [e])), Bool.and_false]
theorem pairB_take : ∀ (p q : List Pc) (k : Nat) (h1 : k < p.length) (h2 : k < q.length), pairB (p.take (k + 1)) (q.take (k + 1)) = (pairB (p.take k) (q.take k) && coversB p[k] q[k])
  | [], _, _, h, _ => absurd h (by simp)
  | _ :: _, [], _, _, h => absurd h (by simp)
  | a :: p, b :: q, 0, _, _ => by simp [pairB]
  | a :: p, b :: q, k + 1, h1, h2 => by
    have := pairB_take p q k (by simpa using h1) (by simpa using h2)
    simp only [List.take_succ_cons, pairB, List.getElem_cons_succ]
    rw [this, Bool.and_assoc]
theorem pairB_cut : ∀ (p q : List Pc) (k : Nat), pairB p q = true → pairB (p.take k) (q.take k) = true
  | [], [], k, _ => by simp [pairB]
  | [], _ :: _, _, h => by simp [pairB] at h
  | _ :: _, [], _, h => by simp [pairB] at h
  | a :: p, b :: q, 0, _ => by simp [pairB]
  | a :: p, b :: q, k + 1, h => by
    simp only [pairB, Bool.and_eq_true] at h
    simp only [List.take_succ_cons, pairB, Bool.and_eq_true]
    exact ⟨h.1, pairB_cut p q k h.2⟩
theorem pairB_not {p q : List Pc} {k : Nat} (h : pairB (p.take k) (q.take k) = false) : pairB p q = false := by
  cases hp : pairB p q
  · rfl
  · rw [pairB_cut p q k hp] at h; cases h

theorem sumA_snoc (q : List Pc) (x : Pc) : sumA (q ++ [x]) = sumA q + sizeA x := by simp [sumA]
theorem sumZ_snoc (q : List Pc) (x : Pc) : sumZ (q ++ [x]) = sumZ q + sizeZ x := by simp [sumZ]

theorem size_ok {x : Pc} (h : runB x = true ∨ plainB x = true) (ht : x.t.length ≤ 1000) : 0 ≤ sizeA x ∧ sizeA x ≤ 1000 ∧ 0 ≤ sizeZ x ∧ sizeZ x ≤ 1000 := by
  unfold sizeA sizeZ
  rcases h with h | h
  · obtain ⟨h1, h2, h3, h4, h5, h6, h7⟩ := runB_iff.1 h
    rw [if_neg (by omega), if_neg (by omega)]
    omega
  · obtain ⟨h1, h2, h3, h4, h5⟩ := plainB_iff.1 h
    rw [if_pos h1, if_pos h1]
    omega
theorem sum_ok : ∀ (q : List Pc), (∀ x ∈ q, (runB x = true ∨ plainB x = true) ∧ x.t.length ≤ 1000) → 0 ≤ sumA q ∧ sumA q ≤ 1000 * q.length ∧ 0 ≤ sumZ q ∧ sumZ q ≤ 1000 * q.length
  | [], _ => by simp [sumA, sumZ]
  | x :: q, h => by
    have h1 := sum_ok q (fun y hy => h y (List.mem_cons_of_mem _ hy))
    have h2 := size_ok (h x List.mem_cons_self).1 (h x List.mem_cons_self).2
    have e1 : sumA (x :: q) = sizeA x + sumA q := by simp [sumA]
    have e2 : sumZ (x :: q) = sizeZ x + sumZ q := by simp [sumZ]
    rw [e1, e2, List.length_cons]
    omega

/-- The program's test of a literal: all four fields alike. -/
theorem same_plain {a b : Pc} (ha : runB a = true ∨ plainB a = true) (hb : runB b = true ∨ plainB b = true) (hc : a.c = 0) : (decide (b.c = 0) && decide (a.t = b.t)) = (decide (a.c = b.c) && decide (a.l = b.l) && decide (a.m = b.m) && decide (a.t = b.t)) := by
  have h1 : plainB a = true := ha.resolve_left (fun h => by have := (runB_iff.1 h).1; omega)
  obtain ⟨_, q2, q3, _⟩ := plainB_iff.1 h1
  rw [Bool.eq_iff_iff]
  simp only [Bool.and_eq_true, decide_eq_true_eq]
  constructor
  · rintro ⟨h2, h3⟩
    have h4 : plainB b = true := hb.resolve_left (fun h => by have := (runB_iff.1 h).1; omega)
    obtain ⟨r1, r2, r3, _⟩ := plainB_iff.1 h4
    exact ⟨⟨⟨by omega, by omega⟩, by omega⟩, h3⟩
  · rintro ⟨⟨⟨h2, _⟩, _⟩, h3⟩
    exact ⟨by omega, h3⟩

end Go.Proofs.YtddjbfmohibgbaaDoor

/- Reading a pattern, in plain words. No program is looked at. -/
namespace Go.Proofs.YtddjbfmohibgbaaDoor

/-- What a reading function gives: a value, or the place and the number of an error. -/
abbrev PR (α : Type) := Except (Nat × Nat) α

/-- The byte at an offset; 0 at the end. -/
def peekL (s : List UInt8) (k : Nat) : UInt8 := s.getD k 0
def isD (c : UInt8) : Bool := decide (48 ≤ c.toNat) && decide (c.toNat ≤ 57)

/-- A number: the string, where it begins, steps left, the place, what is read so far. -/
def numF (s : List UInt8) (fr : Nat) : Nat → Nat → Nat → PR (Nat × Nat)
  | 0, k, n => if k = fr then .error (k, 12) else .ok (n, k)
  | f + 1, k, n =>
    if isD (peekL s k) then (if k = fr + 1 ∧ (peekL s fr).toNat = 48 then .error (k, 12) else numF s fr f (k + 1) (min (10 * n + ((peekL s k).toNat - 48)) 201))
    else if k = fr then .error (k, 12) else .ok (n, k)
/-- A number from an offset on. -/
def numL (s : List UInt8) (k : Nat) : PR (Nat × Nat) := numF s k (s.length - k) k 0

/-- A count in braces behind the first number. -/
def endB (s : List UInt8) (op n m k : Nat) : PR ((Nat × Nat) × Nat) :=
  if (peekL s k).toNat = 125 then (if n > m ∨ m < 1 ∨ m > 200 then .error (op, 3) else .ok ((n, m), k + 1)) else .error (k, 12)
def bracesL (s : List UInt8) (op : Nat) : PR ((Nat × Nat) × Nat) :=
  match numL s (op + 1) with
  | .error e => .error e
  | .ok (n, k) =>
    if (peekL s k).toNat = 44 then
      match numL s (k + 1) with
      | .error e => .error e
      | .ok (m, k2) => endB s op n m k2
    else endB s op n n k

/-- The counts behind a class's letter, and the place. -/
def cntL (s : List UInt8) (k : Nat) : PR ((Nat × Nat) × Nat) :=
  if (peekL s k).toNat = 43 then .ok ((1, 200), k + 1)
  else if (peekL s k).toNat = 42 then .ok ((0, 200), k + 1)
  else if (peekL s k).toNat = 123 then bracesL s k
  else .ok ((1, 1), k)

/-- Where a byte stands in a list; -1 if it does not. -/
def idxF : List UInt8 → UInt8 → Int → Int
  | [], _, _ => -1
  | a :: l, c, k => if a = c then k else idxF l c (k + 1)
/-- The class of a letter; 0 if there is none. -/
def nameN (c : UInt8) : Int := idxF names c 0 + 1

/-- A literal's byte put behind the pieces. -/
def addC (p : List Pc) (c : UInt8) : List Pc :=
  match p.getLast? with
  | some x => if x.c = 0 then p.dropLast ++ [{ x with t := x.t ++ [c] }] else p ++ [⟨0, 0, 0, [c]⟩]
  | none => [⟨0, 0, 0, [c]⟩]

/-- One round: what stands at an offset. -/
def stepP (s : List UInt8) (k : Nat) (p : List Pc) : PR (Nat × List Pc) :=
  if (peekL s k).toNat = 92 then
    if 0 < nameN (peekL s (k + 1)) then
      match cntL s (k + 2) with
      | .error e => .error e
      | .ok ((l, m), k2) => .ok (k2, p ++ [⟨nameN (peekL s (k + 1)), l, m, []⟩])
    else if special (peekL s (k + 1)) then .ok (k + 2, addC p (peekL s (k + 1)))
    else .error (k + 1, 12)
  else if cls (peekL s k) = 0 ∨ special (peekL s k) = true then .error (k, 12)
  else .ok (k + 1, addC p (peekL s k))

/-- All rounds. -/
def piecesF (s : List UInt8) : Nat → Nat → List Pc → PR (List Pc)
  | 0, _, p => .ok p
  | f + 1, k, p =>
    if k < s.length then
      match stepP s k p with
      | .error e => .error e
      | .ok (k2, p2) => piecesF s f k2 p2
    else .ok p
def parseL (s : List UInt8) : PR (List Pc) := if 60 < s.length then .error (0, 2) else piecesF s s.length 0 []

theorem numF_mono {s : List UInt8} {fr : Nat} : ∀ (f k n : Nat) {m k2 : Nat}, numF s fr f k n = .ok (m, k2) → k ≤ k2 ∧ k2 ≤ k + f ∧ fr < k2 ∨ k < fr
  | 0, k, n, m, k2, h => by
    unfold numF at h
    split at h
    · cases h
    · cases h; omega
  | f + 1, k, n, m, k2, h => by
    unfold numF at h
    split at h
    · split at h
      · cases h
      · have := numF_mono f (k + 1) _ h
        omega
    · split at h
      · cases h
      · cases h; omega

theorem numF_le {s : List UInt8} {fr : Nat} : ∀ (f k n : Nat) {m k2 : Nat}, n ≤ 201 → numF s fr f k n = .ok (m, k2) → m ≤ 201
  | 0, k, n, m, k2, hn, h => by
    unfold numF at h
    split at h
    · cases h
    · cases h; omega
  | f + 1, k, n, m, k2, hn, h => by
    unfold numF at h
    split at h
    · split at h
      · cases h
      · exact numF_le f (k + 1) _ (by omega) h
    · split at h
      · cases h
      · cases h; omega

theorem numL_ok {s : List UInt8} {k n k2 : Nat} (hk : k ≤ s.length) (h : numL s k = .ok (n, k2)) : k < k2 ∧ k2 ≤ s.length ∧ n ≤ 201 := by
  have h1 := numF_mono _ _ _ h
  have h2 := numF_le _ _ _ (by omega) h
  omega

theorem peekL_some {s : List UInt8} {k : Nat} (h : peekL s k ≠ 0) : k < s.length := by
  rcases Nat.lt_or_ge k s.length with h1 | h1
  · exact h1
  · exact absurd (by unfold peekL; simp [List.getD, List.getElem?_eq_none h1]) h

theorem bracesL_ok {s : List UInt8} {k n m k2 : Nat} (hk : k < s.length) (h : bracesL s k = .ok ((n, m), k2)) : k < k2 ∧ k2 ≤ s.length ∧ n ≤ m ∧ 1 ≤ m ∧ m ≤ 200 := by
  have hend : ∀ {n m k1 : Nat}, k < k1 → endB s k n m k1 = .ok ((n, m), k2) → k < k2 ∧ k2 ≤ s.length ∧ n ≤ m ∧ 1 ≤ m ∧ m ≤ 200 := fun {n m k1} h1 h2 => by
    unfold endB at h2
    split at h2
    · rename_i h3
      split at h2
      · cases h2
      · cases h2
        have := peekL_some (s := s) (k := k1) (fun e => by rw [e] at h3; exact absurd h3 (by decide))
        omega
    · cases h2
  have hnm : ∀ {a b k1 : Nat}, endB s k a b k1 = .ok ((n, m), k2) → a = n ∧ b = m := fun {a b k1} h2 => by
    unfold endB at h2
    split at h2
    · split at h2
      · cases h2
      · cases h2; exact ⟨rfl, rfl⟩
    · cases h2
  unfold bracesL at h
  split at h
  · cases h
  · rename_i a k1 h1
    have e1 := numL_ok (by omega) h1
    split at h
    · rename_i hc
      have hl := peekL_some (s := s) (k := k1) (fun e => by rw [e] at hc; exact absurd hc (by decide))
      split at h
      · cases h
      · rename_i b k3 h3
        have e3 := numL_ok (by omega) h3
        obtain ⟨rfl, rfl⟩ := hnm h
        exact hend (by omega) h
    · obtain ⟨rfl, rfl⟩ := hnm h
      exact hend (by omega) h

end Go.Proofs.YtddjbfmohibgbaaDoor

/- Finds, in plain words. No program is looked at. -/
namespace Go.Proofs.YtddjbfmohibgbaaDoor

/-- The greatest end behind an offset that a row marks, from e down; the offset itself if there is none. -/
def endF (l : List Bool) (k : Nat) : Nat → Nat
  | 0 => 0
  | e + 1 => if k < e + 1 then (if l.getD (e + 1) false then e + 1 else endF l k e) else e + 1

/-- All finds from an offset on. -/
def findF (p : List Pc) (s : List UInt8) : Nat → Nat → List (Nat × Nat)
  | 0, _ => []
  | f + 1, k =>
    if k < s.length then
      (if k < endF (reachL p s k) k s.length then (k, endF (reachL p s k) k s.length) :: findF p s f (endF (reachL p s k) k s.length) else findF p s f (k + 1))
    else []
def findsL (p : List Pc) (s : List UInt8) : List (Nat × Nat) := if rightB p && textB s then findF p s s.length 0 else []

end Go.Proofs.YtddjbfmohibgbaaDoor

/- What a pattern reaches is what it can be cut into, piece by piece. No program is looked at. -/
namespace Go.Proofs.YtddjbfmohibgbaaDoor

/-- A part that a piece matches. -/
def Fit (x : Pc) (u : List UInt8) : Prop := if x.c = 0 then u = x.t else x.l ≤ (u.length : Int) ∧ (u.length : Int) ≤ x.m ∧ allB u x.c = true

/-- A string that can be cut into parts, one for each piece. -/
def Dec : List Pc → List UInt8 → Prop
  | [], s => s = []
  | x :: p, s => ∃ u v, s = u ++ v ∧ Fit x u ∧ Dec p v

theorem dec_append : ∀ (p q : List Pc) (s : List UInt8), Dec (p ++ q) s ↔ ∃ u v, s = u ++ v ∧ Dec p u ∧ Dec q v
  | [], q, s => by
    constructor
    · exact fun h => ⟨[], s, rfl, rfl, h⟩
    · rintro ⟨u, v, rfl, h1, h2⟩
      cases h1
      exact h2
  | x :: p, q, s => by
    constructor
    · rintro ⟨u, v, rfl, h1, h2⟩
      obtain ⟨a, b, rfl, h3, h4⟩ := (dec_append p q v).1 h2
      exact ⟨u ++ a, b, by simp, ⟨u, a, rfl, h1, h3⟩, h4⟩
    · rintro ⟨u, v, rfl, ⟨a, b, rfl, h1, h2⟩, h3⟩
      exact ⟨a, b ++ v, by simp, h1, (dec_append p q (b ++ v)).2 ⟨b, v, rfl, h2, h3⟩⟩
theorem dec_one (x : Pc) (s : List UInt8) : Dec [x] s ↔ Fit x s := by
  constructor
  · rintro ⟨u, v, rfl, h, h2⟩
    cases h2
    simpa using h
  · exact fun h => ⟨s, [], by simp, h, rfl⟩

/-- The bytes from k to e. -/
def sub (s : List UInt8) (k e : Nat) : List UInt8 := (s.drop k).take (e - k)
theorem length_sub {s : List UInt8} {k e : Nat} (h1 : k ≤ e) (h2 : e ≤ s.length) : (sub s k e).length = e - k := by unfold sub; simp; omega
theorem sub_self (s : List UInt8) (k : Nat) : sub s k k = [] := by unfold sub; simp
theorem sub_all (s : List UInt8) : sub s 0 s.length = s := by unfold sub; simp
theorem sub_append {s : List UInt8} {a b c : Nat} (h1 : a ≤ b) (h2 : b ≤ c) : sub s a b ++ sub s b c = sub s a c := by
  unfold sub
  have e : s.drop b = (s.drop a).drop (b - a) := by rw [List.drop_drop]; congr 1; omega
  rw [e, show c - a = (b - a) + (c - b) by omega, List.take_add]
theorem sub_split {s u v : List UInt8} {k e : Nat} (h1 : k ≤ e) (h2 : e ≤ s.length) (h : sub s k e = u ++ v) : u = sub s k (k + u.length) ∧ v = sub s (k + u.length) e ∧ k + u.length ≤ e := by
  have hl := length_sub h1 h2
  rw [h, List.length_append] at hl
  have h3 : k + u.length ≤ e := by omega
  have h4 : sub s k (k + u.length) ++ sub s (k + u.length) e = u ++ v := by rw [← h]; exact sub_append (by omega) h3
  have h5 := List.append_inj h4 (by rw [length_sub (by omega) (by omega)]; omega)
  exact ⟨h5.1.symm, h5.2.symm, h3⟩

theorem allB_sub {s : List UInt8} {k j : Nat} {c : Int} (h : k + j ≤ s.length) : allB (sub s k (k + j)) c = true ↔ ∀ q, 0 < q → q ≤ j → cin (cls (s.getD (k + q - 1) 0)) c = true := by
  induction j with
  | zero =>
    rw [show k + 0 = k by omega, sub_self]
    exact ⟨fun _ q h1 h2 => by omega, fun _ => rfl⟩
  | succ j ih =>
    have hk : k + j < s.length := by omega
    have e : sub s k (k + (j + 1)) = sub s k (k + j) ++ [s[k + j]] := by
      rw [← sub_append (show k ≤ k + j by omega) (show k + j ≤ k + (j + 1) by omega)]
      congr 1
      unfold sub
      rw [show k + (j + 1) - (k + j) = 1 by omega, List.drop_eq_getElem_cons hk]
      rfl
    have e2 : allB (sub s k (k + (j + 1))) c = (allB (sub s k (k + j)) c && cin (cls s[k + j]) c) := by rw [e]; simp [allB]
    rw [e2, Bool.and_eq_true, ih (by omega)]
    have e3 : s.getD (k + (j + 1) - 1) 0 = s[k + j] := by rw [show k + (j + 1) - 1 = k + j by omega]; simp [List.getD, hk]
    constructor
    · rintro ⟨h1, h2⟩ q h3 h4
      rcases Nat.lt_or_ge j q with h5 | h5
      · obtain rfl : q = j + 1 := by omega
        rw [e3]; exact h2
      · exact h1 q h3 h5
    · intro h1
      exact ⟨fun q h2 h3 => h1 q h2 (by omega), by rw [← e3]; exact h1 (j + 1) (by omega) (Nat.le_refl _)⟩

theorem mem_runL {x : Pc} {s : List UInt8} {k e : Nat} : ∀ {f n : Nat}, s.length + 1 ≤ f + n + k → (e ∈ runL x s k f n ↔ ∃ j, n ≤ j ∧ e = k + j ∧ (j : Int) ≤ x.m ∧ k + j ≤ s.length ∧ x.l ≤ (j : Int) ∧ ∀ q, n ≤ q → 0 < q → q ≤ j → cin (cls (s.getD (k + q - 1) 0)) x.c = true)
  | 0, n, hf => by
    constructor
    · intro h; cases h
    · rintro ⟨j, h1, rfl, h2, h3, _⟩
      omega
  | f + 1, n, hf => by
    by_cases h : (n : Int) ≤ x.m ∧ k + n ≤ s.length
    · by_cases h2 : 0 < n ∧ cin (cls (s.getD (k + n - 1) 0)) x.c = false
      · rw [runL_bad h2]
        constructor
        · intro h; cases h
        · rintro ⟨j, g1, rfl, g2, g3, g4, g5⟩
          have := g5 n (Nat.le_refl _) h2.1 g1
          rw [h2.2] at this
          cases this
      · rw [runL_go h h2, List.mem_append, mem_runL (f := f) (n := n + 1) (by omega)]
        constructor
        · rintro (h3 | ⟨j, g1, rfl, g2, g3, g4, g5⟩)
          · split at h3
            · rename_i h4
              simp at h3
              refine ⟨n, Nat.le_refl _, h3, h.1, h.2, h4, fun q g1 g2 g3 => ?_⟩
              obtain rfl : q = n := by omega
              cases hc : cin (cls (s.getD (k + q - 1) 0)) x.c
              · exact absurd ⟨g2, hc⟩ h2
              · rfl
            · cases h3
          · refine ⟨j, by omega, rfl, g2, g3, g4, fun q q1 q2 q3 => ?_⟩
            rcases Nat.lt_or_ge n q with h5 | h5
            · exact g5 q h5 q2 q3
            · obtain rfl : q = n := by omega
              cases hc : cin (cls (s.getD (k + q - 1) 0)) x.c
              · exact absurd ⟨q2, hc⟩ h2
              · rfl
        · rintro ⟨j, g1, rfl, g2, g3, g4, g5⟩
          rcases Nat.lt_or_ge n j with h5 | h5
          · exact .inr ⟨j, h5, rfl, g2, g3, g4, fun q q1 q2 q3 => g5 q (by omega) q2 q3⟩
          · obtain rfl : j = n := by omega
            left
            rw [if_pos g4]
            simp
    · rw [runL_stop h]
      constructor
      · intro h; cases h
      · rintro ⟨j, g1, rfl, g2, g3, g4, g5⟩
        exact absurd ⟨by omega, by omega⟩ h

theorem mem_endsL {x : Pc} {s : List UInt8} {k e : Nat} (hk : k ≤ s.length) : e ∈ endsL x s k ↔ k ≤ e ∧ e ≤ s.length ∧ Fit x (sub s k e) := by
  unfold endsL Fit
  by_cases hc : x.c = 0
  · rw [if_pos hc, if_pos hc]
    constructor
    · intro h
      split at h
      · rename_i h2
        have h3 := prefix_le h2 hk
        simp at h
        subst h
        refine ⟨by omega, h3, ?_⟩
        obtain ⟨r, hr⟩ := List.isPrefixOf_iff_prefix.1 h2
        unfold sub
        rw [← hr, show k + x.t.length - k = x.t.length by omega]
        simp
      · cases h
    · rintro ⟨h1, h2, h3⟩
      have hl := length_sub h1 h2
      rw [h3] at hl
      have h4 : x.t.isPrefixOf (s.drop k) = true := by
        rw [List.isPrefixOf_iff_prefix]
        refine ⟨(s.drop k).drop (e - k), ?_⟩
        rw [← h3]
        unfold sub
        exact List.take_append_drop _ _
      rw [if_pos h4]
      simp
      omega
  · rw [if_neg hc, if_neg hc, mem_runL (by omega)]
    constructor
    · rintro ⟨j, _, rfl, h2, h3, h4, h5⟩
      rw [length_sub (by omega) h3, allB_sub h3, show k + j - k = j by omega]
      exact ⟨by omega, h3, h4, h2, fun q h1 h6 => h5 q (Nat.zero_le _) h1 h6⟩
    · rintro ⟨h1, h2, h3⟩
      rw [length_sub h1 h2] at h3
      have e1 : e = k + (e - k) := by omega
      rw [e1, show k + (e - k) - k = e - k by omega, allB_sub (by omega)] at h3
      exact ⟨e - k, Nat.zero_le _, e1, h3.2.1, by omega, h3.1, fun q _ h4 h5 => h3.2.2 q h4 h5⟩

theorem getD_set (l : List Bool) (a e : Nat) : (l.set a true).getD e false = (decide (e = a ∧ e < l.length) || l.getD e false) := by
  simp only [List.getD_eq_getElem?_getD, List.getElem?_set]
  by_cases h : a = e
  · subst h
    by_cases h2 : a < l.length
    · simp [h2]
    · simp [h2]
  · rw [if_neg h]
    have : ¬ (e = a ∧ e < l.length) := fun h3 => h h3.1.symm
    simp [this]
theorem getD_marks (l : List Nat) : ∀ (b : List Bool) (e : Nat), e < b.length → ((marks l b).getD e false = true ↔ e ∈ l ∨ b.getD e false = true) := by
  induction l with
  | nil => intro b e _; simp [marks]
  | cons a l ih =>
    intro b e h
    show (marks l (b.set a true)).getD e false = true ↔ _
    rw [ih _ e (by simpa using h), getD_set]
    simp [h]
    constructor
    · rintro (h1 | h1 | h1)
      · exact .inl (.inr h1)
      · exact .inl (.inl h1)
      · exact .inr h1
    · rintro ((h1 | h1) | h1)
      · exact .inr (.inl h1)
      · exact .inl h1
      · exact .inr (.inr h1)
theorem getD_stepF (x : Pc) (s : List UInt8) (now : List Bool) (e : Nat) (he : e ≤ s.length) : ∀ k, ((stepF x s now k).getD e false = true ↔ ∃ i, i < k ∧ now.getD i false = true ∧ e ∈ endsL x s i)
  | 0 => by
    constructor
    · intro h
      simp [stepF, List.getD_eq_getElem?_getD, List.getElem?_replicate] at h
      split at h <;> simp at h
    · rintro ⟨i, h, _⟩; omega
  | k + 1 => by
    have ih := getD_stepF x s now e he k
    rw [stepF_succ]
    by_cases hn : now.getD k false = true
    · rw [if_pos hn, getD_marks _ _ _ (by rw [length_stepF]; omega), ih]
      constructor
      · rintro (h | ⟨i, h1, h2⟩)
        · exact ⟨k, by omega, hn, h⟩
        · exact ⟨i, by omega, h2⟩
      · rintro ⟨i, h1, h2, h3⟩
        rcases Nat.lt_or_ge i k with h4 | h4
        · exact .inr ⟨i, h4, h2, h3⟩
        · obtain rfl : i = k := by omega
          exact .inl h3
    · rw [if_neg hn, ih]
      constructor
      · rintro ⟨i, h1, h2⟩; exact ⟨i, by omega, h2⟩
      · rintro ⟨i, h1, h2, h3⟩
        refine ⟨i, ?_, h2, h3⟩
        rcases Nat.lt_or_ge i k with h4 | h4
        · exact h4
        · obtain rfl : i = k := by omega
          exact absurd h2 hn

/-- What is reached. -/
theorem reach_iff (p : List Pc) (s : List UInt8) (f : Nat) (hf : f ≤ s.length) : ∀ e, e ≤ s.length → ((reachL p s f).getD e false = true ↔ f ≤ e ∧ Dec p (sub s f e)) := by
  induction h : p.length generalizing p with
  | zero =>
    intro e he
    obtain rfl := List.length_eq_zero_iff.1 h
    show ((List.replicate (s.length + 1) false).set f true).getD e false = true ↔ f ≤ e ∧ sub s f e = []
    rw [getD_set]
    have e1 : (List.replicate (s.length + 1) false).getD e false = false := by
      simp only [List.getD_eq_getElem?_getD, List.getElem?_replicate]
      split <;> rfl
    rw [e1, Bool.or_false, decide_eq_true_eq, List.length_replicate]
    constructor
    · rintro ⟨rfl, _⟩
      exact ⟨Nat.le_refl _, sub_self _ _⟩
    · rintro ⟨h1, h2⟩
      have := length_sub h1 he
      rw [h2] at this
      simp at this
      omega
  | succ n ih =>
    intro e he
    rcases List.eq_nil_or_concat p with rfl | ⟨q, x, rfl⟩
    · simp at h
    rw [List.concat_eq_append] at h ⊢
    have ih := ih q (by simpa using h)
    rw [reachL_snoc, stepL, getD_stepF _ _ _ _ he]
    constructor
    · rintro ⟨i, h1, h2, h3⟩
      obtain ⟨h4, h5⟩ := (ih i (by omega)).1 h2
      obtain ⟨h6, h7, h8⟩ := (mem_endsL (by omega)).1 h3
      refine ⟨by omega, (dec_append _ _ _).2 ⟨sub s f i, sub s i e, (sub_append h4 h6).symm, h5, (dec_one _ _).2 h8⟩⟩
    · rintro ⟨h1, h2⟩
      obtain ⟨u, v, h3, h4, h5⟩ := (dec_append _ _ _).1 h2
      obtain ⟨e1, e2, h6⟩ := sub_split h1 he h3
      rw [e1] at h4
      rw [dec_one, e2] at h5
      exact ⟨f + u.length, by omega, (ih _ (by omega)).2 ⟨by omega, h4⟩, (mem_endsL (by omega)).2 ⟨h6, he, h5⟩⟩

theorem matchB_iff (p : List Pc) (s : List UInt8) : matchB p s = true ↔ rightB p = true ∧ textB s = true ∧ Dec p s := by
  unfold matchB
  rw [Bool.and_eq_true, Bool.and_eq_true, reach_iff p s 0 (Nat.zero_le _) _ (Nat.le_refl _), sub_all]
  constructor
  · rintro ⟨⟨h1, h2⟩, _, h3⟩; exact ⟨h1, h2, h3⟩
  · rintro ⟨h1, h2, h3⟩; exact ⟨⟨h1, h2⟩, Nat.zero_le _, h3⟩

end Go.Proofs.YtddjbfmohibgbaaDoor

/- Covering is sound; wider patterns cover. No program is looked at. -/
namespace Go.Proofs.YtddjbfmohibgbaaDoor

theorem cin_iff (a k : Int) : cin a k = true ↔ 0 < a ∧ (a = k ∨ k = 7 ∨ (k = 4 ∧ (a = 2 ∨ a = 3))) := by simp [cin, or_assoc]
theorem cin_trans {a b c : Int} (h1 : cin a b = true) (h2 : cin b c = true) : cin a c = true := by
  rw [cin_iff] at *
  omega
theorem allB_mono {s : List UInt8} {a b : Int} (h1 : allB s a = true) (h2 : cin a b = true) : allB s b = true := by
  unfold allB at *
  rw [List.all_eq_true] at *
  exact fun c hc => cin_trans (h1 c hc) h2
theorem allB_seven {s : List UInt8} {a : Int} (h1 : allB s a = true) : allB s 7 = true := by
  unfold allB at *
  rw [List.all_eq_true] at *
  intro c hc
  have := h1 c hc
  rw [cin_iff] at *
  omega
theorem allB_append (s t : List UInt8) (k : Int) : allB (s ++ t) k = (allB s k && allB t k) := by simp [allB]

theorem fit_size {x : Pc} {u : List UInt8} (h : Fit x u) : sizeA x ≤ (u.length : Int) ∧ (u.length : Int) ≤ sizeZ x := by
  unfold Fit at h
  unfold sizeA sizeZ
  split at h
  · rename_i hc
    rw [if_pos hc, if_pos hc, h]
    exact ⟨Int.le_refl _, Int.le_refl _⟩
  · rename_i hc
    rw [if_neg hc, if_neg hc]
    exact ⟨h.1, h.2.1⟩
theorem fit_inside {x : Pc} {u : List UInt8} {k : Int} (h : Fit x u) (hi : insideB x k = true) : allB u k = true := by
  unfold Fit at h
  unfold insideB at hi
  split at h
  · rename_i hc
    rw [if_pos hc] at hi
    rw [h]; exact hi
  · rename_i hc
    rw [if_neg hc] at hi
    exact allB_mono h.2.2 hi

theorem covers_fit {a b : Pc} {u : List UInt8} (h : coversB a b = true) (hb : Fit b u) : Fit a u := by
  unfold coversB at h
  unfold Fit
  by_cases hc : a.c = 0
  · rw [if_pos hc] at h
    rw [if_pos hc]
    simp only [Bool.and_eq_true, decide_eq_true_eq] at h
    unfold Fit at hb
    rw [if_pos h.1] at hb
    rw [hb, h.2]
  · rw [if_neg hc] at h
    rw [if_neg hc]
    simp only [Bool.and_eq_true, decide_eq_true_eq] at h
    have := fit_size hb
    exact ⟨by omega, by omega, fit_inside hb h.1.1⟩

theorem pair_dec : ∀ {p q : List Pc} {s : List UInt8}, pairB p q = true → Dec q s → Dec p s
  | [], [], _, _, h => h
  | [], _ :: _, _, h, _ => by simp [pairB] at h
  | _ :: _, [], _, h, _ => by simp [pairB] at h
  | a :: p, b :: q, s, h, hd => by
    simp only [pairB, Bool.and_eq_true] at h
    obtain ⟨u, v, rfl, h1, h2⟩ := hd
    exact ⟨u, v, rfl, covers_fit h.1 h1, pair_dec h.2 h2⟩

theorem dec_size : ∀ {q : List Pc} {s : List UInt8}, Dec q s → sumA q ≤ (s.length : Int) ∧ (s.length : Int) ≤ sumZ q
  | [], s, h => by cases h; simp [sumA, sumZ]
  | x :: q, s, h => by
    obtain ⟨u, v, rfl, h1, h2⟩ := h
    have h3 := fit_size h1
    have h4 := dec_size h2
    have e1 : sumA (x :: q) = sizeA x + sumA q := by simp [sumA]
    have e2 : sumZ (x :: q) = sizeZ x + sumZ q := by simp [sumZ]
    rw [e1, e2, List.length_append]
    omega
theorem dec_all {k : Int} : ∀ {q : List Pc} {s : List UInt8}, Dec q s → q.all (fun x => insideB x k) = true → allB s k = true
  | [], s, h, _ => by cases h; rfl
  | x :: q, s, h, hi => by
    obtain ⟨u, v, rfl, h1, h2⟩ := h
    rw [List.all_cons, Bool.and_eq_true] at hi
    rw [allB_append, fit_inside h1 hi.1, dec_all h2 hi.2]
    rfl

theorem cover_sound {p q : List Pc} {s : List UInt8} (h : coverB p q = true) (hm : matchB q s = true) : matchB p s = true := by
  rw [matchB_iff] at hm ⊢
  obtain ⟨h1, h2, h3⟩ := hm
  simp only [coverB, Bool.and_eq_true, Bool.or_eq_true] at h
  refine ⟨h.1.1, h2, ?_⟩
  rcases h.2 with h4 | h4
  · exact pair_dec h4 h3
  · unfold oneB at h4
    split at h4
    · rename_i a
      simp only [Bool.and_eq_true, decide_eq_true_eq, Bool.not_eq_true', decide_eq_false_iff_not] at h4
      obtain ⟨⟨⟨g1, g2⟩, g3⟩, g4⟩ := h4
      have h5 := dec_size h3
      have h6 : s.length ≤ 200 := by unfold textB at h2; simp at h2; exact h2.1
      refine (dec_one _ _).2 ?_
      unfold Fit
      rw [if_neg g1]
      exact ⟨by omega, by omega, dec_all h3 g2⟩
    · cases h4

/-- A pattern covers itself. -/
theorem covers_self {x : Pc} (h : runB x = true ∨ plainB x = true) : coversB x x = true := by
  unfold coversB
  by_cases hc : x.c = 0
  · rw [if_pos hc]; simp [hc]
  · rw [if_neg hc]
    have hr := h.resolve_right (fun h2 => hc (plainB_iff.1 h2).1)
    obtain ⟨h1, h2, h3, h4, h5, h6, h7⟩ := runB_iff.1 hr
    unfold insideB sizeA sizeZ
    rw [if_neg hc, if_neg hc, if_neg hc]
    simp [cin_iff]
    omega
theorem pair_self : ∀ {p : List Pc}, (∀ x ∈ p, runB x = true ∨ plainB x = true) → pairB p p = true
  | [], _ => rfl
  | x :: p, h => by
    simp only [pairB, Bool.and_eq_true]
    exact ⟨covers_self (h x List.mem_cons_self), pair_self fun y hy => h y (List.mem_cons_of_mem _ hy)⟩
theorem right_mem {p : List Pc} (h : rightB p = true) {x : Pc} (hx : x ∈ p) : runB x = true ∨ plainB x = true := by
  simp only [rightB, Bool.and_eq_true] at h
  exact okFrom_mem h.1.1 hx
theorem cover_self (p : List Pc) : coverB p p = rightB p := by
  cases h : rightB p
  · simp [coverB, h]
  · simp [coverB, h, pair_self (fun x hx => right_mem h hx)]

/-- A piece whose counts are wider by n. -/
def widen (n : Int) (x : Pc) : Pc := if x.c = 0 then x else ⟨if 0 < n then 7 else x.c, max (x.l - n) 0, min (x.m + n) 200, x.t⟩
def WideP : List Pc → List Pc → Prop
  | [], [] => True
  | a :: p, b :: q => (∃ n : Int, 0 ≤ n ∧ a = widen n b) ∧ WideP p q
  | _, _ => False

theorem widen_covers {n : Int} {x : Pc} (hn : 0 ≤ n) (h : runB x = true ∨ plainB x = true) : coversB (widen n x) x = true := by
  by_cases hc : x.c = 0
  · have e : widen n x = x := by unfold widen; rw [if_pos hc]
    rw [e]; exact covers_self h
  · have hr := h.resolve_right (fun h2 => hc (plainB_iff.1 h2).1)
    obtain ⟨h1, h2, h3, h4, h5, h6, h7⟩ := runB_iff.1 hr
    unfold coversB widen insideB sizeA sizeZ
    simp only [if_neg hc]
    by_cases h0 : 0 < n
    · simp only [if_pos h0]
      rw [if_neg (by omega)]
      simp [cin_iff]
      omega
    · simp only [if_neg h0, if_neg hc]
      simp [cin_iff]
      omega
theorem wide_pair : ∀ {p q : List Pc}, WideP p q → (∀ x ∈ q, runB x = true ∨ plainB x = true) → pairB p q = true
  | [], [], _, _ => rfl
  | a :: p, b :: q, h, hq => by
    obtain ⟨⟨n, hn, rfl⟩, h2⟩ := h
    simp only [pairB, Bool.and_eq_true]
    exact ⟨widen_covers hn (hq b List.mem_cons_self), wide_pair h2 fun y hy => hq y (List.mem_cons_of_mem _ hy)⟩
  | [], _ :: _, h, _ => h.elim
  | _ :: _, [], h, _ => h.elim
theorem wide_cover {p q : List Pc} (h : WideP p q) (hp : rightB p = true) (hq : rightB q = true) : coverB p q = true := by
  simp [coverB, hp, hq, wide_pair h (fun x hx => right_mem hq hx)]

end Go.Proofs.YtddjbfmohibgbaaDoor

/- Patterns and texts that numbers determine, in plain words. No program is looked at. -/
namespace Go.Proofs.YtddjbfmohibgbaaDoor

def madeTexts : List (List UInt8) := [[45], [97], [66, 55], [43], [92, 123], [32], [120, 32, 121]]
def litAdd (p : List Pc) (t : List UInt8) : List Pc :=
  match p.getLast? with
  | some x => if x.c = 0 then p.dropLast ++ [{ x with t := x.t ++ t }] else p ++ [⟨0, 0, 0, t⟩]
  | none => [⟨0, 0, 0, t⟩]
def runM (a b c : Int) : Pc :=
  if c % 9 = 7 then ⟨a % 11 + 1, b % 3, 200, []⟩
  else if c % 9 = 8 then ⟨a % 11 + 1, 1, 1, []⟩
  else if b % 3 + c % 4 = 0 then ⟨a % 11 + 1, b % 3, 1, []⟩
  else ⟨a % 11 + 1, b % 3, b % 3 + c % 4, []⟩
def stepM (p : List Pc) (a b c : Int) : List Pc := if 6 < a % 11 then litAdd p (madeTexts.getD (b % 7).toNat []) else p ++ [runM a b c]
def madeN (l : List Int) : Nat → List Pc
  | 0 => []
  | n + 1 => stepM (madeN l n) (l.getD (3 * n) 0) (l.getD (3 * n + 1) 0) (l.getD (3 * n + 2) 0)
def madeL (l : List Int) : List Pc := madeN l (min 5 (l.length / 3))

theorem litAdd_nil (t : List UInt8) : litAdd [] t = [⟨0, 0, 0, t⟩] := rfl
theorem litAdd_lit (q : List Pc) (x : Pc) (t : List UInt8) (h : x.c = 0) : litAdd (q ++ [x]) t = q ++ [⟨x.c, x.l, x.m, x.t ++ t⟩] := by
  unfold litAdd; simp [h]
theorem litAdd_run (q : List Pc) (x : Pc) (t : List UInt8) (h : ¬ x.c = 0) : litAdd (q ++ [x]) t = q ++ [x] ++ [⟨0, 0, 0, t⟩] := by
  unfold litAdd; simp [h]

theorem madeTexts_ok {n : Nat} (h : n < 7) : madeTexts.getD n [] ≠ [] ∧ allB (madeTexts.getD n []) 7 = true ∧ (madeTexts.getD n []).length ≤ 3 := by
  have : n = 0 ∨ n = 1 ∨ n = 2 ∨ n = 3 ∨ n = 4 ∨ n = 5 ∨ n = 6 := by omega
  rcases this with rfl | rfl | rfl | rfl | rfl | rfl | rfl <;> exact ⟨by decide, by decide, by decide⟩

/-- A piece as the makers make it: right, its counts small or 200, its text short. -/
def MadeP (B : Nat) (x : Pc) : Prop := (runB x = true ∧ x.l ≤ 2 ∨ plainB x = true) ∧ x.t.length ≤ B
theorem MadeP.mono {A B : Nat} {x : Pc} (h : MadeP A x) (hab : A ≤ B) : MadeP B x := ⟨h.1, Nat.le_trans h.2 hab⟩
theorem runM_ok (a b c : Int) (h : ¬ 6 < a % 11) (B : Nat) : MadeP B (runM a b c) := by
  refine ⟨.inl ?_, ?_⟩
  · rw [runB_iff]
    unfold runM
    repeat' split
    all_goals simp
    all_goals omega
  · unfold runM
    repeat' split
    all_goals exact Nat.zero_le _

theorem litAdd_ok {p : List Pc} {t : List UInt8} {B : Nat} (hp : ∀ x ∈ p, MadeP B x) (h1 : t ≠ []) (h2 : allB t 7 = true) (h3 : t.length ≤ 3) : (∀ x ∈ litAdd p t, MadeP (B + 3) x) ∧ (litAdd p t).length ≤ p.length + 1 := by
  have hn : MadeP (B + 3) ⟨0, 0, 0, t⟩ := ⟨.inr (plainB_iff.2 ⟨rfl, rfl, rfl, h1, h2⟩), by show t.length ≤ _; omega⟩
  rcases List.eq_nil_or_concat p with rfl | ⟨q, x, rfl⟩
  · rw [litAdd_nil]
    exact ⟨fun x hx => by obtain rfl := List.mem_singleton.1 hx; exact hn, by simp⟩
  · rw [List.concat_eq_append] at *
    by_cases hc : x.c = 0
    · rw [litAdd_lit _ _ _ hc]
      refine ⟨fun y hy => ?_, by simp⟩
      rcases List.mem_append.1 hy with hy | hy
      · exact (hp y (List.mem_append_left _ hy)).mono (by omega)
      · obtain rfl := List.mem_singleton.1 hy
        have hx := hp x (by simp)
        have hpl := hx.1.resolve_left (fun h => by have := (runB_iff.1 h.1).1; omega)
        obtain ⟨q1, q2, q3, q4, q5⟩ := plainB_iff.1 hpl
        refine ⟨.inr (plainB_iff.2 ⟨q1, q2, q3, by simp [h1], by rw [allB_append, q5, h2]; rfl⟩), ?_⟩
        have := hx.2
        show (x.t ++ t).length ≤ _
        rw [List.length_append]
        omega
    · rw [litAdd_run _ _ _ hc]
      refine ⟨fun y hy => ?_, by simp⟩
      rcases List.mem_append.1 hy with hy | hy
      · exact (hp y hy).mono (by omega)
      · obtain rfl := List.mem_singleton.1 hy
        exact hn
theorem made_ok (l : List Int) : ∀ n, (∀ x ∈ madeN l n, MadeP (3 * n) x) ∧ (madeN l n).length ≤ n
  | 0 => ⟨fun x hx => (by cases hx), Nat.le_refl _⟩
  | n + 1 => by
    obtain ⟨h1, h2⟩ := made_ok l n
    unfold madeN stepM
    by_cases h : 6 < l.getD (3 * n) 0 % 11
    · rw [if_pos h]
      obtain ⟨t1, t2, t3⟩ := madeTexts_ok (n := (l.getD (3 * n + 1) 0 % 7).toNat) (by omega)
      obtain ⟨g1, g2⟩ := litAdd_ok h1 t1 t2 t3
      exact ⟨fun x hx => (g1 x hx).mono (by omega), by omega⟩
    · rw [if_neg h]
      refine ⟨fun x hx => ?_, by rw [List.length_append]; simp; omega⟩
      rcases List.mem_append.1 hx with hx | hx
      · exact (h1 x hx).mono (by omega)
      · obtain rfl := List.mem_singleton.1 hx
        exact runM_ok _ _ _ h _

/-- The letters of a sample. -/
def charsOf : List (List UInt8) := [[], [48, 49, 56, 57], [65, 90, 81], [97, 122, 113], [65, 90, 97, 122], [32], [45, 46, 43, 123], [97, 48, 32, 90, 126]]
def sampN (x : Pc) (at_ : Nat) (l : List Int) : Nat := (if at_ < l.length then min (x.l + l.getD at_ 0 % 3) x.m else x.l).toNat
def sampX (at_ : Nat) (l : List Int) (k : Nat) : Nat := (if at_ < l.length then (l.getD at_ 0 % 97).toNat + k else k)
def sampC (x : Pc) (at_ : Nat) (l : List Int) (k : Nat) : UInt8 := (charsOf.getD x.c.toNat []).getD (sampX at_ l k % (charsOf.getD x.c.toNat []).length) 0
def sampR (x : Pc) (at_ : Nat) (l : List Int) (n : Nat) : List UInt8 := (List.range n).map (sampC x at_ l)
def sampS (l : List Int) (st : List UInt8 × Nat) (x : Pc) : List UInt8 × Nat := if x.c = 0 then (st.1 ++ x.t, st.2) else (st.1 ++ sampR x (st.2 + 1) l (sampN x st.2 l), st.2 + 1)
def sampP (p : List Pc) (l : List Int) : List UInt8 × Nat := p.foldl (sampS l) ([], 0)
def sampleL (p : List Pc) (l : List Int) : List UInt8 := (sampP p l).1

theorem sampP_snoc (p : List Pc) (x : Pc) (l : List Int) : sampP (p ++ [x]) l = sampS l (sampP p l) x := by simp [sampP]
theorem sampR_succ (x : Pc) (a : Nat) (l : List Int) (n : Nat) : sampR x a l (n + 1) = sampR x a l n ++ [sampC x a l n] := by simp [sampR, List.range_succ]

def charsGood (c : Nat) : Prop := 0 < (charsOf.getD c []).length ∧ (charsOf.getD c []).length ≤ 5 ∧ ∀ u ∈ charsOf.getD c [], cin (cls u) c = true ∧ cin (cls u) 7 = true
theorem chars_ok {c : Nat} (h0 : 0 < c) (h1 : c ≤ 7) : charsGood c := by
  have : c = 1 ∨ c = 2 ∨ c = 3 ∨ c = 4 ∨ c = 5 ∨ c = 6 ∨ c = 7 := by omega
  rcases this with rfl | rfl | rfl | rfl | rfl | rfl | rfl <;> exact ⟨by decide, by decide, by decide⟩

theorem sampC_ok {x : Pc} (hx : runB x = true) (a : Nat) (l : List Int) (k : Nat) : cin (cls (sampC x a l k)) x.c = true ∧ cin (cls (sampC x a l k)) 7 = true := by
  obtain ⟨h1, h2, _⟩ := runB_iff.1 hx
  obtain ⟨g0, _, g1⟩ := chars_ok (c := x.c.toNat) (by omega) (by omega)
  unfold sampC
  have hlt := Nat.mod_lt (sampX a l k) g0
  have e : (charsOf.getD x.c.toNat []).getD (sampX a l k % (charsOf.getD x.c.toNat []).length) 0 = (charsOf.getD x.c.toNat [])[sampX a l k % (charsOf.getD x.c.toNat []).length] := by
    rw [List.getD_eq_getElem?_getD, List.getElem?_eq_getElem hlt]; rfl
  rw [e]
  have := g1 _ (List.getElem_mem hlt)
  rw [show ((x.c.toNat : Nat) : Int) = x.c by omega] at this
  exact this

theorem sampR_fit {x : Pc} (hx : runB x = true) (a b : Nat) (l : List Int) : Fit x (sampR x b l (sampN x a l)) ∧ allB (sampR x b l (sampN x a l)) 7 = true := by
  obtain ⟨h1, h2, h3, h4, h5, h6, h7⟩ := runB_iff.1 hx
  have hl : (sampR x b l (sampN x a l)).length = sampN x a l := by simp [sampR]
  have hn : x.l ≤ (sampN x a l : Int) ∧ (sampN x a l : Int) ≤ x.m := by
    unfold sampN
    split
    · have := Int.emod_nonneg (l.getD a 0) (show (3 : Int) ≠ 0 by omega)
      omega
    · omega
  refine ⟨?_, ?_⟩
  · unfold Fit
    rw [if_neg (by omega), hl]
    refine ⟨hn.1, hn.2, ?_⟩
    unfold allB sampR
    rw [List.all_eq_true]
    intro c hc
    obtain ⟨k, _, rfl⟩ := List.mem_map.1 hc
    exact (sampC_ok hx b l k).1
  · unfold allB sampR
    rw [List.all_eq_true]
    intro c hc
    obtain ⟨k, _, rfl⟩ := List.mem_map.1 hc
    exact (sampC_ok hx b l k).2

theorem sample_dec (l : List Int) (p : List Pc) (h : ∀ x ∈ p, runB x = true ∨ plainB x = true) : Dec p (sampleL p l) ∧ allB (sampleL p l) 7 = true := by
  induction hn : p.length generalizing p with
  | zero =>
    obtain rfl := List.length_eq_zero_iff.1 hn
    exact ⟨rfl, rfl⟩
  | succ n ih =>
    rcases List.eq_nil_or_concat p with rfl | ⟨q, x, rfl⟩
    · simp at hn
    rw [List.concat_eq_append] at *
    obtain ⟨i1, i2⟩ := ih q (fun y hy => h y (List.mem_append_left _ hy)) (by simpa using hn)
    have hx := h x (by simp)
    have e : sampleL (q ++ [x]) l = (sampS l (sampP q l) x).1 := by unfold sampleL; rw [sampP_snoc]
    rw [e]
    unfold sampS
    by_cases hc : x.c = 0
    · rw [if_pos hc]
      have hp := hx.resolve_left (fun h2 => by have := (runB_iff.1 h2).1; omega)
      obtain ⟨q1, q2, q3, q4, q5⟩ := plainB_iff.1 hp
      refine ⟨(dec_append _ _ _).2 ⟨_, _, rfl, i1, (dec_one _ _).2 ?_⟩, ?_⟩
      · unfold Fit; rw [if_pos hc]
      · dsimp only
        rw [allB_append]
        unfold sampleL at i2
        rw [i2, q5]; rfl
    · rw [if_neg hc]
      have hr := hx.resolve_right (fun h2 => hc (plainB_iff.1 h2).1)
      obtain ⟨f1, f2⟩ := sampR_fit hr (sampP q l).2 ((sampP q l).2 + 1) l
      refine ⟨(dec_append _ _ _).2 ⟨_, _, rfl, i1, (dec_one _ _).2 f1⟩, ?_⟩
      dsimp only
      rw [allB_append]
      unfold sampleL at i2
      rw [i2, f2]; rfl

theorem sample_len (l : List Int) (B : Nat) (p : List Pc) (h : ∀ x ∈ p, MadeP B x) : (sampleL p l).length ≤ p.length * (B + 4) ∧ (sampP p l).2 ≤ p.length := by
  induction hn : p.length generalizing p with
  | zero =>
    obtain rfl := List.length_eq_zero_iff.1 hn
    exact ⟨Nat.zero_le _, Nat.le_refl _⟩
  | succ n ih =>
    rcases List.eq_nil_or_concat p with rfl | ⟨q, x, rfl⟩
    · simp at hn
    rw [List.concat_eq_append] at *
    have hq : q.length = n := by simpa using hn
    obtain ⟨i1, i2⟩ := ih q (fun y hy => h y (List.mem_append_left _ hy)) hq
    have hx := h x (by simp)
    have e : sampleL (q ++ [x]) l = (sampS l (sampP q l) x).1 := by unfold sampleL; rw [sampP_snoc]
    rw [e, sampP_snoc]
    unfold sampS
    unfold sampleL at i1
    rw [Nat.add_mul, Nat.one_mul]
    by_cases hc : x.c = 0
    · rw [if_pos hc]
      dsimp only
      rw [List.length_append]
      have := hx.2
      exact ⟨by omega, by omega⟩
    · rw [if_neg hc]
      dsimp only
      rw [List.length_append]
      have hr := hx.1.resolve_right (fun h2 => hc (plainB_iff.1 h2).1)
      have hsl : (sampR x ((sampP q l).2 + 1) l (sampN x (sampP q l).2 l)).length = sampN x (sampP q l).2 l := by simp [sampR]
      have hsn : sampN x (sampP q l).2 l ≤ 4 := by
        unfold sampN
        split
        · have := Int.emod_lt_of_pos (l.getD (sampP q l).2 0) (show (0 : Int) < 3 by omega)
          omega
        · omega
      rw [hsl]
      exact ⟨by omega, by omega⟩

/-- A text that is made of parts for each piece is matched. -/
theorem sample_match {l : List Int} {p : List Pc} (h : rightB p = true) (hl : (sampleL p l).length ≤ 200) : matchB p (sampleL p l) = true := by
  obtain ⟨h1, h2⟩ := sample_dec l p (fun x hx => right_mem h hx)
  exact (matchB_iff _ _).2 ⟨h, by unfold textB; simp [hl, h2], h1⟩

end Go.Proofs.YtddjbfmohibgbaaDoor

/- A pattern of one run: what it matches. No program is looked at. -/
namespace Go.Proofs.YtddjbfmohibgbaaDoor

theorem right_one {c l m : Int} (h0 : 0 < c) (h1 : c ≤ 7) (h2 : 0 ≤ l) (h3 : l ≤ m) (h4 : 0 < m) (h5 : m ≤ 200) : rightB [⟨c, l, m, []⟩] = true := by
  have hr : runB ⟨c, l, m, []⟩ = true := runB_iff.2 ⟨h0, h1, h2, h3, h4, h5, rfl⟩
  have hp : plainB ⟨c, l, m, []⟩ = false := by
    cases h : plainB ⟨c, l, m, []⟩
    · rfl
    · have : c = 0 := (plainB_iff.1 h).1
      omega
  have hl := length_pieceS ⟨c, l, m, []⟩
  have hw : writtenS [⟨c, l, m, []⟩] = pieceS ⟨c, l, m, []⟩ := by simp [writtenS]
  simp only [rightB, okFrom, hr, hp, hw, Bool.true_or, Bool.false_and, Bool.not_false, Bool.and_true, List.length_singleton, Bool.and_eq_true, decide_eq_true_eq]
  simp only [List.length_nil] at hl
  refine ⟨by decide, ?_⟩
  omega

/-- A byte and the pattern of one class. -/
theorem match_class (c : UInt8) {n : Int} (h0 : 0 < n) (h1 : n ≤ 7) : matchB [⟨n, 1, 1, []⟩] [c] = (decide (n = cls c) || (decide (n = 7) && decide (0 < cls c)) || (decide (n = 4) && (decide (cls c = 2) || decide (cls c = 3)))) := by
  rw [Bool.eq_iff_iff, matchB_iff, dec_one]
  have hr := right_one h0 h1 (l := 1) (m := 1) (by omega) (by omega) (by omega) (by omega)
  have ht : textB [c] = cin (cls c) 7 := by simp [textB, allB]
  have hf : Fit ⟨n, 1, 1, []⟩ [c] ↔ cin (cls c) n = true := by
    unfold Fit
    rw [if_neg (by show ¬ n = 0; omega)]
    simp [allB]
  have hk := cls_rng c
  rw [hf, ht, cin_iff, cin_iff]
  simp only [Bool.or_eq_true, Bool.and_eq_true, decide_eq_true_eq]
  constructor
  · rintro ⟨_, _, _⟩; omega
  · intro h
    have hp : 0 < cls c := by omega
    refine ⟨hr, ⟨hp, .inr (.inl trivial)⟩, hp, ?_⟩
    rcases h with (h | h) | h
    · exact .inl h.symm
    · exact .inr (.inl h.1)
    · exact .inr (.inr h)

/-- A text by itself. -/
theorem match_whole {s : List UInt8} (h0 : 0 < s.length) (h1 : s.length ≤ 200) (h : allB s 7 = true) : matchB [⟨7, s.length, s.length, []⟩] s = true := by
  refine (matchB_iff _ _).2 ⟨right_one (by omega) (by omega) (by omega) (by omega) (by omega) (by omega), by simp [textB, h, h1], (dec_one _ _).2 ?_⟩
  unfold Fit
  rw [if_neg (by show ¬ (7 : Int) = 0; omega)]
  exact ⟨Int.le_refl _, Int.le_refl _, h⟩

end Go.Proofs.YtddjbfmohibgbaaDoor

/- Finds: in order, apart, as long as can be, with nothing between them. No program is looked at. -/
namespace Go.Proofs.YtddjbfmohibgbaaDoor

theorem endF_facts (l : List Bool) (k : Nat) : ∀ e, k ≤ e → k ≤ endF l k e ∧ endF l k e ≤ e ∧ (k < endF l k e → l.getD (endF l k e) false = true) ∧ ∀ j, endF l k e < j → j ≤ e → l.getD j false = false
  | 0, h => by
    obtain rfl : k = 0 := by omega
    exact ⟨Nat.le_refl _, Nat.le_refl _, fun h => absurd h (Nat.lt_irrefl _), fun j h1 h2 => absurd h1 (by unfold endF; omega)⟩
  | e + 1, h => by
    unfold endF
    by_cases h1 : k < e + 1
    · rw [if_pos h1]
      cases h2 : l.getD (e + 1) false
      · obtain ⟨g1, g2, g3, g4⟩ := endF_facts l k e (by omega)
        rw [if_neg (by simp)]
        refine ⟨g1, by omega, g3, fun j h3 h4 => ?_⟩
        rcases Nat.lt_or_ge e j with h5 | h5
        · obtain rfl : j = e + 1 := by omega
          exact h2
        · exact g4 j h3 h5
      · rw [if_pos rfl]
        exact ⟨by omega, Nat.le_refl _, fun _ => h2, fun j h3 h4 => absurd h3 (by omega)⟩
    · rw [if_neg h1]
      exact ⟨by omega, Nat.le_refl _, fun h3 => absurd h3 (by omega), fun j h3 h4 => absurd h3 (by omega)⟩

/-- What the finds from an offset on are. -/
def Spans (p : List Pc) (s : List UInt8) : Nat → List (Nat × Nat) → Prop
  | k, [] => ∀ i j, k ≤ i → i < j → j ≤ s.length → ¬ Dec p (sub s i j)
  | k, (a, b) :: L => k ≤ a ∧ a < b ∧ b ≤ s.length ∧ Dec p (sub s a b) ∧ (∀ j, b < j → j ≤ s.length → ¬ Dec p (sub s a j)) ∧ (∀ i j, k ≤ i → i < a → i < j → j ≤ s.length → ¬ Dec p (sub s i j)) ∧ Spans p s b L

theorem spans_down {p : List Pc} {s : List UInt8} {k : Nat} {L : List (Nat × Nat)} (h : ∀ j, k < j → j ≤ s.length → ¬ Dec p (sub s k j)) (h2 : Spans p s (k + 1) L) : Spans p s k L := by
  have f : ∀ i j, k ≤ i → i < j → j ≤ s.length → (k + 1 ≤ i → ¬ Dec p (sub s i j)) → ¬ Dec p (sub s i j) := fun i j h3 h4 h5 h6 => by
    rcases Nat.lt_or_ge k i with h7 | h7
    · exact h6 h7
    · obtain rfl : i = k := by omega
      exact h j h4 h5
  match L, h2 with
  | [], h2 => exact fun i j h3 h4 h5 => f i j h3 h4 h5 (fun h6 => h2 i j h6 h4 h5)
  | (a, b) :: L, ⟨g1, g2, g3, g4, g5, g6, g7⟩ => exact ⟨by omega, g2, g3, g4, g5, fun i j h3 h8 h4 h5 => f i j h3 h4 h5 (fun h6 => g6 i j h6 h8 h4 h5), g7⟩

theorem findF_spans (p : List Pc) (s : List UInt8) : ∀ f k, s.length ≤ f + k → k ≤ s.length → Spans p s k (findF p s f k)
  | 0, k, h1, h2 => fun i j h3 h4 h5 => by omega
  | f + 1, k, h1, h2 => by
    unfold findF
    by_cases h : k < s.length
    · rw [if_pos h]
      obtain ⟨g1, g2, g3, g4⟩ := endF_facts (reachL p s k) k s.length h2
      have hr := reach_iff p s k h2
      by_cases h3 : k < endF (reachL p s k) k s.length
      · rw [if_pos h3]
        refine ⟨Nat.le_refl _, h3, g2, ((hr _ g2).1 (g3 h3)).2, fun j h4 h5 hd => ?_, fun i j h4 h5 => by omega, findF_spans p s f _ (by omega) g2⟩
        have := (hr j h5).2 ⟨by omega, hd⟩
        rw [g4 j h4 h5] at this
        cases this
      · rw [if_neg h3]
        refine spans_down (fun j h4 h5 hd => ?_) (findF_spans p s f (k + 1) (by omega) (by omega))
        have := (hr j h5).2 ⟨by omega, hd⟩
        rw [g4 j (by omega) h5] at this
        cases this
    · rw [if_neg h]
      exact fun i j h3 h4 h5 => by omega

theorem spans_len {p : List Pc} {s : List UInt8} : ∀ {L : List (Nat × Nat)} {k : Nat}, k ≤ s.length → Spans p s k L → L.length + k ≤ s.length
  | [], k, h, _ => by simpa using h
  | (a, b) :: L, k, h, ⟨g1, g2, g3, g4, g5, g6, g7⟩ => by
    have := spans_len g3 g7
    rw [List.length_cons]
    omega

/-- What the law asks of the finds. -/
def SpansM (p : List Pc) (s : List UInt8) : Nat → List (Nat × Nat) → Prop
  | k, [] => textB s = true → ∀ i j, k ≤ i → i < j → j ≤ s.length → matchB p (sub s i j) = false
  | k, (a, b) :: L => k ≤ a ∧ a < b ∧ b ≤ s.length ∧ matchB p (sub s a b) = true ∧ (∀ j, b < j → j ≤ s.length → matchB p (sub s a j) = false) ∧ (∀ i j, k ≤ i → i < a → i < j → j ≤ s.length → matchB p (sub s i j) = false) ∧ SpansM p s b L

theorem match_not {p : List Pc} {s : List UInt8} (h : ¬ Dec p s) : matchB p s = false := by
  cases hm : matchB p s
  · rfl
  · exact absurd ((matchB_iff _ _).1 hm).2.2 h
theorem text_sub {s : List UInt8} (h : textB s = true) (k e : Nat) : textB (sub s k e) = true := by
  unfold textB at *
  simp only [Bool.and_eq_true, decide_eq_true_eq] at *
  refine ⟨?_, ?_⟩
  · unfold sub; simp; omega
  · unfold allB at *
    rw [List.all_eq_true] at *
    exact fun c hc => h.2 c (List.mem_of_mem_drop (List.mem_of_mem_take hc))

theorem spans_m {p : List Pc} {s : List UInt8} (hr : rightB p = true) (ht : textB s = true) : ∀ {L : List (Nat × Nat)} {k : Nat}, Spans p s k L → SpansM p s k L
  | [], _, h => fun _ i j h1 h2 h3 => match_not (h i j h1 h2 h3)
  | (_, _) :: _, _, ⟨g1, g2, g3, g4, g5, g6, g7⟩ => ⟨g1, g2, g3, (matchB_iff _ _).2 ⟨hr, text_sub ht _ _, g4⟩, fun j h1 h2 => match_not (g5 j h1 h2), fun i j h1 h2 h3 h4 => match_not (g6 i j h1 h2 h3 h4), spans_m hr ht g7⟩

theorem finds_spans (p : List Pc) (s : List UInt8) : SpansM p s 0 (findsL p s) ∧ (findsL p s).length ≤ s.length := by
  unfold findsL
  cases hr : rightB p
  · refine ⟨fun _ i j _ _ _ => ?_, Nat.zero_le _⟩
    unfold matchB; rw [hr]; rfl
  · cases ht : textB s
    · refine ⟨fun h => ?_, Nat.zero_le _⟩
      rw [ht] at h; cases h
    · have h := findF_spans p s s.length 0 (by omega) (by omega)
      refine ⟨spans_m hr ht h, ?_⟩
      have := spans_len (Nat.zero_le _) h
      simpa using this

end Go.Proofs.YtddjbfmohibgbaaDoor

/- A written form is read again. No program is looked at. -/
namespace Go.Proofs.YtddjbfmohibgbaaDoor

theorem peek_drop {s r : List UInt8} {k : Nat} (h : s.drop k = r) (j : Nat) : peekL s (k + j) = r.getD j 0 := by
  rw [← h]
  unfold peekL
  simp [List.getD_eq_getElem?_getD, List.getElem?_drop]
theorem peek_drop0 {s r : List UInt8} {k : Nat} (h : s.drop k = r) : peekL s k = r.getD 0 0 := peek_drop h 0
theorem drop_more {s a r : List UInt8} {k : Nat} (h : s.drop k = a ++ r) : s.drop (k + a.length) = r := by
  rw [← List.drop_drop, h]; simp
theorem drop_len {s r : List UInt8} {k : Nat} (h : s.drop k = r) (hr : r ≠ []) : s.length = k + r.length := by
  have := congrArg List.length h
  rw [List.length_drop] at this
  have : r.length ≠ 0 := fun e => hr (List.eq_nil_of_length_eq_zero e)
  omega

theorem dig_toNat {d : Nat} (h : d < 10) : (dig d).toNat = 48 + d := by unfold dig; simp; omega
theorem isD_dig {d : Nat} (h : d < 10) : isD (dig d) = true := by unfold isD; rw [dig_toNat h]; simp; omega

theorem num_end {s : List UInt8} {fr k n f : Nat} (h : isD (peekL s k) = false) (hk : k ≠ fr) : numF s fr f k n = .ok (n, k) := by
  cases f with
  | zero => unfold numF; rw [if_neg hk]
  | succ f => unfold numF; rw [h]; simp [hk]
theorem num_step {s : List UInt8} {fr k n f d : Nat} (h : peekL s k = dig d) (hd : d < 10) (hz : ¬ (k = fr + 1 ∧ (peekL s fr).toNat = 48)) : numF s fr (f + 1) k n = numF s fr f (k + 1) (min (10 * n + d) 201) := by
  rw [numF, h, isD_dig hd, dig_toNat hd, if_pos rfl, if_neg hz, show 48 + d - 48 = d by omega]

theorem numL_dec {s r : List UInt8} {k n : Nat} {c : UInt8} (hn : n ≤ 200) (h : s.drop k = dec n ++ c :: r) (hc : isD c = false) : numL s k = .ok (n, k + (dec n).length) := by
  have hl := drop_len h (by simp)
  rw [List.length_append, List.length_cons] at hl
  unfold numL
  unfold dec at h hl ⊢
  by_cases h1 : n < 10
  · rw [if_pos h1] at h hl ⊢
    have p0 : peekL s k = dig n := by rw [peek_drop0 h]; rfl
    have p1 : peekL s (k + 1) = c := by rw [peek_drop h 1]; rfl
    have hf : s.length - k = (r.length + 1) + 1 := by simp at hl; omega
    rw [hf, num_step p0 h1 (by omega), num_end (by rw [p1]; exact hc) (by omega), show min (10 * 0 + n) 201 = n by omega]
    rfl
  · rw [if_neg h1] at h hl ⊢
    by_cases h2 : n < 100
    · rw [if_pos h2] at h hl ⊢
      have p0 : peekL s k = dig (n / 10) := by rw [peek_drop0 h]; rfl
      have p1 : peekL s (k + 1) = dig (n % 10) := by rw [peek_drop h 1]; rfl
      have p2 : peekL s (k + 1 + 1) = c := by rw [show k + 1 + 1 = k + 2 by omega, peek_drop h 2]; rfl
      have hf : s.length - k = (r.length + 1) + 1 + 1 := by simp at hl; omega
      rw [hf, num_step p0 (by omega) (by omega), num_step p1 (by omega) (by rw [p0, dig_toNat (by omega)]; omega), num_end (by rw [p2]; exact hc) (by omega),
        show min (10 * min (10 * 0 + n / 10) 201 + n % 10) 201 = n by omega]
      rfl
    · rw [if_neg h2] at h hl ⊢
      have p0 : peekL s k = dig (n / 100) := by rw [peek_drop0 h]; rfl
      have p1 : peekL s (k + 1) = dig (n / 10 % 10) := by rw [peek_drop h 1]; rfl
      have p2 : peekL s (k + 1 + 1) = dig (n % 10) := by rw [show k + 1 + 1 = k + 2 by omega, peek_drop h 2]; rfl
      have p3 : peekL s (k + 1 + 1 + 1) = c := by rw [show k + 1 + 1 + 1 = k + 3 by omega, peek_drop h 3]; rfl
      have hf : s.length - k = (r.length + 1) + 1 + 1 + 1 := by simp at hl; omega
      rw [hf, num_step p0 (by omega) (by omega), num_step p1 (by omega) (by rw [p0, dig_toNat (by omega)]; omega), num_step p2 (by omega) (by omega), num_end (by rw [p3]; exact hc) (by omega),
        show min (10 * min (10 * min (10 * 0 + n / 100) 201 + n / 10 % 10) 201 + n % 10) 201 = n by omega]
      rfl

theorem braces_one {s r : List UInt8} {k n : Nat} (h1 : 1 ≤ n) (hn : n ≤ 200) (h : s.drop k = 123 :: (dec n ++ [125]) ++ r) : bracesL s k = .ok ((n, n), k + (123 :: (dec n ++ [125])).length) := by
  have e1 : s.drop (k + 1) = dec n ++ 125 :: r := by
    have : s.drop k = [123] ++ (dec n ++ 125 :: r) := by rw [h]; simp
    exact drop_more this
  have e2 : peekL s (k + 1 + (dec n).length) = 125 := by rw [peek_drop e1]; simp [List.getD_eq_getElem?_getD]
  unfold bracesL
  rw [numL_dec hn e1 (by decide)]
  dsimp only
  rw [e2, if_neg (by decide)]
  unfold endB
  rw [e2, if_pos (by decide), if_neg (by omega)]
  simp
  omega
theorem braces_two {s r : List UInt8} {k n m : Nat} (h0 : n ≤ m) (h1 : 1 ≤ m) (hm : m ≤ 200) (h : s.drop k = 123 :: (dec n ++ (44 :: (dec m ++ [125]))) ++ r) : bracesL s k = .ok ((n, m), k + (123 :: (dec n ++ (44 :: (dec m ++ [125])))).length) := by
  have e1 : s.drop (k + 1) = dec n ++ 44 :: (dec m ++ 125 :: r) := by
    have : s.drop k = [123] ++ (dec n ++ 44 :: (dec m ++ 125 :: r)) := by rw [h]; simp
    exact drop_more this
  have e2 : peekL s (k + 1 + (dec n).length) = 44 := by rw [peek_drop e1]; simp [List.getD_eq_getElem?_getD]
  have e3 : s.drop (k + 1 + (dec n).length + 1) = dec m ++ 125 :: r := by
    have : s.drop (k + 1) = (dec n ++ [44]) ++ (dec m ++ 125 :: r) := by rw [e1]; simp
    have := drop_more this
    rw [← this]
    congr 1
    simp
    omega
  have e4 : peekL s (k + 1 + (dec n).length + 1 + (dec m).length) = 125 := by rw [peek_drop e3]; simp [List.getD_eq_getElem?_getD]
  unfold bracesL
  rw [numL_dec (by omega) e1 (by decide)]
  dsimp only
  rw [e2, if_pos (by decide), numL_dec hm e3 (by decide)]
  dsimp only
  unfold endB
  rw [e4, if_pos (by decide), if_neg (by omega)]
  simp
  omega

/-- What may stand behind a run. -/
def calm (r : List UInt8) : Prop := (r.getD 0 0).toNat ≠ 43 ∧ (r.getD 0 0).toNat ≠ 42 ∧ (r.getD 0 0).toNat ≠ 123

theorem cnt_run {s r : List UInt8} {k : Nat} {x : Pc} (hx : runB x = true) (h : s.drop k = countS x ++ r) (hr : calm r) : cntL s k = .ok ((x.l.toNat, x.m.toNat), k + (countS x).length) := by
  obtain ⟨h1, h2, h3, h4, h5, h6, h7⟩ := runB_iff.1 hx
  unfold cntL
  unfold countS at h ⊢
  split at h
  · rename_i hc
    rw [if_pos hc]
    rw [peek_drop0 h]
    simp only [List.nil_append]
    rw [if_neg hr.1, if_neg hr.2.1, if_neg hr.2.2, hc.1, hc.2]
    rfl
  · rename_i hc
    rw [if_neg hc]
    split at h
    · rename_i hc2
      rw [if_pos hc2, peek_drop0 h, if_pos (by rfl), hc2.1, hc2.2]
      rfl
    · rename_i hc2
      rw [if_neg hc2]
      split at h
      · rename_i hc3
        rw [if_pos hc3, peek_drop0 h, if_neg (by show ¬ (42 : UInt8).toNat = 43; decide), if_pos (by rfl), hc3.1, hc3.2]
        rfl
      · rename_i hc3
        rw [if_neg hc3]
        split at h
        · rename_i hc4
          rw [if_pos hc4]
          have hp : (peekL s k).toNat = 123 := by rw [peek_drop0 h]; rfl
          rw [hp, if_neg (by decide), if_neg (by decide), if_pos rfl, braces_one (by omega) (by omega) h, ← hc4]
        · rename_i hc4
          rw [if_neg hc4]
          have hp : (peekL s k).toNat = 123 := by rw [peek_drop0 h]; rfl
          rw [hp, if_neg (by decide), if_neg (by decide), if_pos rfl, braces_two (by omega) (by omega) (by omega) h]

theorem name_at {c : Int} (h0 : 0 < c) (h1 : c ≤ 7) : nameN (names.getD (c.toNat - 1) 0) = c := by
  obtain ⟨n, rfl⟩ : ∃ n : Nat, c = n := ⟨c.toNat, by omega⟩
  have : n = 1 ∨ n = 2 ∨ n = 3 ∨ n = 4 ∨ n = 5 ∨ n = 6 ∨ n = 7 := by omega
  rcases this with rfl | rfl | rfl | rfl | rfl | rfl | rfl <;> rfl

theorem step_run {s r : List UInt8} {k : Nat} {x : Pc} {acc : List Pc} (hx : runB x = true) (h : s.drop k = pieceS x ++ r) (hr : calm r) : stepP s k acc = .ok (k + (pieceS x).length, acc ++ [x]) := by
  obtain ⟨h1, h2, h3, h4, h5, h6, h7⟩ := runB_iff.1 hx
  unfold pieceS at h ⊢
  rw [if_pos h1] at h ⊢
  have p0 : (peekL s k).toNat = 92 := by rw [peek_drop0 h]; rfl
  have p1 : peekL s (k + 1) = names.getD (x.c.toNat - 1) 0 := by rw [peek_drop h 1]; rfl
  have e1 : s.drop (k + 2) = countS x ++ r := by
    have : s.drop k = [92, names.getD (x.c.toNat - 1) 0] ++ (countS x ++ r) := by rw [h]; rfl
    exact drop_more this
  unfold stepP
  rw [if_pos p0, p1, name_at h1 h2, if_pos h1, cnt_run hx e1 hr]
  dsimp only
  obtain ⟨c, l, m, t⟩ := x
  simp only at h7 h3 h5
  subst h7
  rw [show ((l.toNat : Nat) : Int) = l by omega, show ((m.toNat : Nat) : Int) = m by omega]
  congr 2
  simp
  omega

/-- A literal's byte as it is written. -/
def escB (c : UInt8) : List UInt8 := if special c then [92, c] else [c]
theorem special_name {c : UInt8} (h : special c = true) : ¬ 0 < nameN c := by
  simp only [special, Bool.or_eq_true, beq_iff_eq] at h
  rcases h with (((rfl | rfl) | rfl) | rfl) | rfl <;> decide
theorem step_byte {s r : List UInt8} {k : Nat} {c : UInt8} {acc : List Pc} (hc : cin (cls c) 7 = true) (h : s.drop k = escB c ++ r) : stepP s k acc = .ok (k + (escB c).length, addC acc c) := by
  unfold escB at h ⊢
  unfold stepP
  cases hs : special c
  · rw [hs] at h
    simp only [Bool.false_eq_true, if_false] at h ⊢
    have p0 : peekL s k = c := by rw [peek_drop0 h]; rfl
    have h92 : ¬ c.toNat = 92 := fun e => by
      have : c = 92 := UInt8.toNat_inj.1 e
      subst this
      exact absurd hs (by decide)
    have h0 : ¬ (cls c = 0 ∨ special c = true) := by
      rw [hs]
      simp [cin] at hc
      simp
      omega
    rw [p0, if_neg h92, if_neg h0]
    rfl
  · rw [hs] at h
    simp only [if_true] at h ⊢
    have p0 : (peekL s k).toNat = 92 := by rw [peek_drop0 h]; rfl
    have p1 : peekL s (k + 1) = c := by rw [peek_drop h 1]; rfl
    rw [if_pos p0, p1, if_neg (special_name hs), if_pos hs]
    rfl

/-- Whether a literal stands last. -/
def lastLit (acc : List Pc) : Bool := match acc.getLast? with
  | some x => decide (x.c = 0)
  | none => false
theorem addC_new {acc : List Pc} {c : UInt8} (h : lastLit acc = false) : addC acc c = acc ++ [⟨0, 0, 0, [c]⟩] := by
  rcases List.eq_nil_or_concat acc with rfl | ⟨q, x, rfl⟩
  · rfl
  · rw [List.concat_eq_append] at h ⊢
    have hx : ¬ x.c = 0 := by
      unfold lastLit at h
      simpa using h
    unfold addC
    simp [hx]
theorem addC_more (acc : List Pc) (u : List UInt8) (c : UInt8) : addC (acc ++ [⟨0, 0, 0, u⟩]) c = acc ++ [⟨0, 0, 0, u ++ [c]⟩] := by
  unfold addC
  simp
theorem lastLit_snoc (acc : List Pc) (x : Pc) : lastLit (acc ++ [x]) = decide (x.c = 0) := by unfold lastLit; simp

theorem go_step {s : List UInt8} {f k k2 : Nat} {acc acc2 : List Pc} (hk : k < s.length) (h : stepP s k acc = .ok (k2, acc2)) : piecesF s (f + 1) k acc = piecesF s f k2 acc2 := by
  rw [piecesF, if_pos hk, h]

theorem litS_cons (c : UInt8) (t : List UInt8) : litS (c :: t) = escB c ++ litS t := rfl
theorem escB_pos (c : UInt8) : 1 ≤ (escB c).length := by unfold escB; split <;> simp
/-- The rest of a literal is read. -/
theorem lit_rest {s : List UInt8} {acc : List Pc} : ∀ {t u r : List UInt8} {k f : Nat}, allB t 7 = true → s.drop k = litS t ++ r → s.length ≤ f + k → ∃ f2 k2, piecesF s f k (acc ++ [⟨0, 0, 0, u⟩]) = piecesF s f2 k2 (acc ++ [⟨0, 0, 0, u ++ t⟩]) ∧ s.drop k2 = r ∧ s.length ≤ f2 + k2
  | [], u, r, k, f, _, h, hf => ⟨f, k, by simp, h, hf⟩
  | c :: t, u, r, k, f, ha, h, hf => by
    rw [litS_cons, List.append_assoc] at h
    rw [allB_cons, Bool.and_eq_true] at ha
    have hl := drop_len h (fun e => by have h2 := escB_pos c; rw [(List.append_eq_nil_iff.1 e).1] at h2; simp at h2)
    rw [List.length_append] at hl
    have hp := escB_pos c
    obtain ⟨f, rfl⟩ : ∃ g, f = g + 1 := ⟨f - 1, by omega⟩
    rw [go_step (by omega) (step_byte ha.1 h), addC_more]
    obtain ⟨f2, k2, h1, h2, h3⟩ := lit_rest (acc := acc) (u := u ++ [c]) (f := f) ha.2 (drop_more h) (by omega)
    exact ⟨f2, k2, by rw [h1]; simp, h2, h3⟩

theorem calm_nil : calm [] := ⟨by decide, by decide, by decide⟩
theorem calm_lit {c : UInt8} {t : List UInt8} : calm (escB c ++ t) := by
  unfold escB calm
  cases hs : special c
  · simp only [Bool.false_eq_true, if_false]
    have f : ∀ n : UInt8, special n = true → ¬ c.toNat = n.toNat := fun n h e => by rw [UInt8.toNat_inj.1 e, h] at hs; cases hs
    exact ⟨f 43 (by decide), f 42 (by decide), f 123 (by decide)⟩
  · simp only [if_true]
    exact ⟨by show ¬ (92 : UInt8).toNat = 43; decide, by show ¬ (92 : UInt8).toNat = 42; decide, by show ¬ (92 : UInt8).toNat = 123; decide⟩
theorem calm_written {p : List Pc} {b : Bool} (h : okFrom b p = true) : calm (writtenS p) := by
  match p, h with
  | [], _ => exact calm_nil
  | x :: p, h =>
    have e : writtenS (x :: p) = pieceS x ++ writtenS p := rfl
    rw [e]
    simp only [okFrom, Bool.and_eq_true, Bool.or_eq_true] at h
    unfold pieceS
    by_cases hc : 0 < x.c
    · rw [if_pos hc]
      exact ⟨by show ¬ (92 : UInt8).toNat = 43; decide, by show ¬ (92 : UInt8).toNat = 42; decide, by show ¬ (92 : UInt8).toNat = 123; decide⟩
    · rw [if_neg hc]
      have hx := h.1.1.resolve_left (fun h2 => hc (runB_iff.1 h2).1)
      obtain ⟨q1, q2, q3, q4, q5⟩ := plainB_iff.1 hx
      match ht : x.t with
      | [] => exact absurd ht q4
      | c :: t => rw [litS_cons, List.append_assoc]; exact calm_lit

theorem reads_written {s : List UInt8} : ∀ {p acc : List Pc} {k f : Nat}, okFrom (lastLit acc) p = true → s.drop k = writtenS p → s.length ≤ f + k → piecesF s f k acc = .ok (acc ++ p)
  | [], acc, k, f, _, h, hf => by
    have hk : s.length ≤ k := by
      have h : s.drop k = [] := h
      rw [List.drop_eq_nil_iff] at h
      exact h
    cases f with
    | zero => simp [piecesF]
    | succ f => rw [piecesF, if_neg (by omega)]; simp
  | x :: p, acc, k, f, hok, h, hf => by
    have e : writtenS (x :: p) = pieceS x ++ writtenS p := rfl
    rw [e] at h
    simp only [okFrom, Bool.and_eq_true, Bool.or_eq_true, Bool.not_eq_true', Bool.and_eq_false_iff] at hok
    obtain ⟨⟨hx, hn⟩, hp⟩ := hok
    by_cases hr : runB x = true
    · have hpl : plainB x = false := by
        cases hpl : plainB x
        · rfl
        · have := (plainB_iff.1 hpl).1; have := (runB_iff.1 hr).1; omega
      have hpos : 1 ≤ (pieceS x).length := by unfold pieceS; rw [if_pos (runB_iff.1 hr).1]; simp
      have hl := drop_len h (fun e => by rw [(List.append_eq_nil_iff.1 e).1] at hpos; simp at hpos)
      rw [List.length_append] at hl
      obtain ⟨f, rfl⟩ : ∃ g, f = g + 1 := ⟨f - 1, by omega⟩
      rw [go_step (by omega) (step_run hr h (calm_written hp)), reads_written (p := p) (by rw [lastLit_snoc, decide_eq_false (by have := (runB_iff.1 hr).1; omega)]; rw [hpl] at hp; exact hp) (drop_more h) (by omega)]
      simp
    · have hpl := hx.resolve_left hr
      obtain ⟨q1, q2, q3, q4, q5⟩ := plainB_iff.1 hpl
      have hll : lastLit acc = false := by
        rcases hn with h2 | h2
        · rw [hpl] at h2; cases h2
        · exact h2
      rw [hpl] at hp
      obtain ⟨c, l, m, t⟩ := x
      simp only at q1 q2 q3 q4 q5
      subst q1 q2 q3
      match t, q4, q5, h with
      | [], q4, _, _ => exact absurd rfl q4
      | b :: t, _, q5, h =>
        have e2 : pieceS ⟨0, 0, 0, b :: t⟩ = escB b ++ litS t := rfl
        rw [e2, List.append_assoc] at h
        rw [allB_cons, Bool.and_eq_true] at q5
        have hpos := escB_pos b
        have hl := drop_len h (fun e => by rw [(List.append_eq_nil_iff.1 e).1] at hpos; simp at hpos)
        rw [List.length_append] at hl
        obtain ⟨f, rfl⟩ : ∃ g, f = g + 1 := ⟨f - 1, by omega⟩
        rw [go_step (by omega) (step_byte q5.1 h), addC_new hll]
        obtain ⟨f2, k2, h1, h2, h3⟩ := lit_rest (acc := acc) (u := [b]) (f := f) q5.2 (drop_more h) (by omega)
        rw [h1, reads_written (p := p) (by rw [lastLit_snoc]; exact hp) h2 h3]
        simp

theorem parse_written {p : List Pc} (h : rightB p = true) : parseL (writtenS p) = .ok p := by
  simp only [rightB, Bool.and_eq_true, decide_eq_true_eq] at h
  unfold parseL
  rw [if_neg (by omega), reads_written (acc := []) (by exact h.1.1) rfl (by omega)]
  rfl

end Go.Proofs.YtddjbfmohibgbaaDoor
