/- The plain words of patterns: pieces, classes, right patterns, written forms. No program is looked at. -/
namespace Go.Proofs.YtddjbfmohibgbaaDoor

/-- A piece: its class, its least and its greatest count, its text. -/
structure Pc where
  c : Int
  l : Int
  m : Int
  t : List UInt8

/-- The class of a byte. -/
def clsN (n : Nat) : Int :=
  if n < 32 ∨ 126 < n then 0
  else if 48 ≤ n ∧ n ≤ 57 then 1
  else if 65 ≤ n ∧ n ≤ 90 then 2
  else if 97 ≤ n ∧ n ≤ 122 then 3
  else if n = 32 then 5 else 6
def cls (c : UInt8) : Int := clsN c.toNat

/-- The class a lies in the class k. -/
def cin (a k : Int) : Bool := decide (0 < a) && (decide (a = k) || decide (k = 7) || (decide (k = 4) && (decide (a = 2) || decide (a = 3))))

def allB (s : List UInt8) (k : Int) : Bool := s.all fun c => cin (cls c) k
def textB (s : List UInt8) : Bool := decide (s.length ≤ 200) && allB s 7

def runB (x : Pc) : Bool := decide (0 < x.c) && decide (x.c ≤ 7) && decide (0 ≤ x.l) && decide (x.l ≤ x.m) && decide (0 < x.m) && decide (x.m ≤ 200) && decide (x.t = [])
def plainB (x : Pc) : Bool := decide (x.c = 0) && decide (x.l = 0) && decide (x.m = 0) && decide (x.t ≠ []) && allB x.t 7

/-- All pieces are right, and no two literals stand side by side; b: a literal stands ahead. -/
def okFrom : Bool → List Pc → Bool
  | _, [] => true
  | b, x :: p => (runB x || plainB x) && !(plainB x && b) && okFrom (plainB x) p

/-- A digit. -/
def dig (n : Nat) : UInt8 := UInt8.ofNat (48 + n)
/-- A number below 1000 in decimal. -/
def dec (n : Nat) : List UInt8 :=
  if n < 10 then [dig n]
  else if n < 100 then [dig (n / 10), dig (n % 10)]
  else [dig (n / 100), dig (n / 10 % 10), dig (n % 10)]

def countS (x : Pc) : List UInt8 :=
  if x.l = 1 ∧ x.m = 1 then []
  else if x.l = 1 ∧ x.m = 200 then [43]
  else if x.l = 0 ∧ x.m = 200 then [42]
  else if x.l = x.m then 123 :: (dec x.l.toNat ++ [125])
  else 123 :: (dec x.l.toNat ++ (44 :: (dec x.m.toNat ++ [125])))

def special (c : UInt8) : Bool := c == 92 || c == 123 || c == 125 || c == 43 || c == 42
/-- The letters of the classes. -/
def names : List UInt8 := [100, 117, 108, 97, 115, 111, 46]
def litS (s : List UInt8) : List UInt8 := s.flatMap fun c => if special c then [92, c] else [c]
def pieceS (x : Pc) : List UInt8 := if 0 < x.c then 92 :: names.getD (x.c.toNat - 1) 0 :: countS x else litS x.t
def writtenS (p : List Pc) : List UInt8 := p.flatMap pieceS
def rightB (p : List Pc) : Bool := okFrom false p && decide (p.length ≤ 60) && decide ((writtenS p).length ≤ 60)
def printS (p : List Pc) : List UInt8 := if rightB p then writtenS p else []

theorem cls_rng (c : UInt8) : 0 ≤ cls c ∧ cls c ≤ 6 := by
  unfold cls clsN
  repeat' split
  all_goals omega

theorem allB_cons (c : UInt8) (s : List UInt8) (k : Int) : allB (c :: s) k = (cin (cls c) k && allB s k) := rfl
theorem allB_take_succ (s : List UInt8) (k : Nat) (h : k < s.length) (g : Int) : allB (s.take (k + 1)) g = (allB (s.take k) g && cin (cls s[k]) g) := by
  unfold allB
  rw [List.take_succ_eq_append_getElem h, List.all_append]
  simp

theorem allB_false {s : List UInt8} {k : Nat} {g : Int} (h : k < s.length) (hc : cin (cls s[k]) g = false) : allB s g = false := by
  unfold allB
  rw [List.all_eq_false]
  exact ⟨s[k], List.getElem_mem h, by simp [hc]⟩

theorem length_dec (n : Nat) : (dec n).length ≤ 3 := by
  unfold dec
  split
  · simp
  · split <;> simp
theorem length_countS (x : Pc) : (countS x).length ≤ 9 := by
  have h1 := length_dec x.l.toNat
  have h2 := length_dec x.m.toNat
  unfold countS
  repeat' split
  all_goals simp
  all_goals omega
theorem length_litS (s : List UInt8) : (litS s).length ≤ 2 * s.length := by
  induction s with
  | nil => simp [litS]
  | cons c s ih =>
    have : litS (c :: s) = (if special c then [92, c] else [c]) ++ litS s := rfl
    rw [this, List.length_append]
    split <;> simp <;> omega
theorem length_pieceS (x : Pc) : (pieceS x).length ≤ 11 + 2 * x.t.length := by
  have h1 := length_countS x
  have h2 := length_litS x.t
  unfold pieceS
  split
  · simp; omega
  · omega
theorem writtenS_snoc (p : List Pc) (x : Pc) : writtenS (p ++ [x]) = writtenS p ++ pieceS x := by simp [writtenS]
theorem litS_snoc (s : List UInt8) (c : UInt8) : litS (s ++ [c]) = litS s ++ (if special c then [92, c] else [c]) := by simp [litS]
theorem writtenS_len (B : Nat) : ∀ (p : List Pc), (∀ x ∈ p, x.t.length ≤ B) → (writtenS p).length ≤ p.length * (11 + 2 * B)
  | [], _ => by simp [writtenS]
  | x :: p, h => by
    have h1 := writtenS_len B p (fun y hy => h y (List.mem_cons_of_mem _ hy))
    have h2 := length_pieceS x
    have h3 := h x List.mem_cons_self
    have e : writtenS (x :: p) = pieceS x ++ writtenS p := rfl
    rw [e, List.length_append, List.length_cons, Nat.add_mul, Nat.one_mul]
    omega

theorem runB_iff {x : Pc} : runB x = true ↔ 0 < x.c ∧ x.c ≤ 7 ∧ 0 ≤ x.l ∧ x.l ≤ x.m ∧ 0 < x.m ∧ x.m ≤ 200 ∧ x.t = [] := by
  simp [runB, and_assoc]
theorem plainB_iff {x : Pc} : plainB x = true ↔ x.c = 0 ∧ x.l = 0 ∧ x.m = 0 ∧ x.t ≠ [] ∧ allB x.t 7 = true := by
  simp [plainB, and_assoc]

/-- Whether a literal stands last. -/
def litAt : Bool → List Pc → Bool
  | b, [] => b
  | _, x :: p => litAt (plainB x) p

theorem litAt_snoc (b : Bool) (p : List Pc) (x : Pc) : litAt b (p ++ [x]) = plainB x := by
  induction p generalizing b with
  | nil => rfl
  | cons y p ih => exact ih _

/-- What the loop over the pieces has seen: all was right so far. -/
theorem okFrom_snoc (b : Bool) (p : List Pc) (x : Pc) : okFrom b (p ++ [x]) = (okFrom b p && ((runB x || plainB x) && !(plainB x && litAt b p))) := by
  induction p generalizing b with
  | nil => simp [okFrom, litAt]
  | cons y p ih =>
    rw [List.cons_append]
    simp only [okFrom, litAt]
    rw [ih, ← Bool.and_assoc]

theorem okFrom_prefix {b : Bool} {p q : List Pc} (h : okFrom b (p ++ q) = true) : okFrom b p = true := by
  induction p generalizing b with
  | nil => rfl
  | cons y p ih =>
    rw [List.cons_append] at h
    simp only [okFrom, Bool.and_eq_true] at h ⊢
    exact ⟨h.1, ih h.2⟩

theorem okFrom_mem {b : Bool} {p : List Pc} (h : okFrom b p = true) {x : Pc} (hx : x ∈ p) : runB x = true ∨ plainB x = true := by
  induction p generalizing b with
  | nil => cases hx
  | cons y p ih =>
    simp only [okFrom, Bool.and_eq_true, Bool.or_eq_true] at h
    rcases List.mem_cons.1 hx with rfl | hx
    · exact h.1.1
    · exact ih h.2 hx

end Go.Proofs.YtddjbfmohibgbaaDoor
