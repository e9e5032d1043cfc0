/- Covering, in plain words. No program is looked at. -/
import Derived.Test.YtddjbfmohibgbaaDoorLaw
namespace Go.Proofs.YtddjbfmohibgbaaDoor

def insideB (x : Pc) (k : Int) : Bool := if x.c = 0 then allB x.t k else cin x.c k
def sizeA (x : Pc) : Int := if x.c = 0 then x.t.length else x.l
def sizeZ (x : Pc) : Int := if x.c = 0 then x.t.length else x.m
def coversB (a b : Pc) : Bool := if a.c = 0 then decide (b.c = 0) && decide (a.t = b.t) else insideB b a.c && decide (a.l ≤ sizeA b) && decide (sizeZ b ≤ a.m)
def pairB : List Pc → List Pc → Bool
  | [], [] => true
  | a :: p, b :: q => coversB a b && pairB p q
  | _, _ => false
def sumA (q : List Pc) : Int := (q.map sizeA).sum
def sumZ (q : List Pc) : Int := (q.map sizeZ).sum
def oneB (p q : List Pc) : Bool := match p with
  | [a] => !decide (a.c = 0) && q.all (fun x => insideB x a.c) && decide (a.l ≤ sumA q) && decide (min (sumZ q) 200 ≤ a.m)
  | _ => false
def coverB (p q : List Pc) : Bool := rightB p && rightB q && (pairB p q || oneB p q)

theorem pairB_len : ∀ {p q : List Pc}, p.length ≠ q.length → pairB p q = false
  | [], [], h => absurd rfl h
  | [], _ :: _, _ => rfl
  | _ :: _, [], _ => rfl
  | a :: p, b :: q, h => by
    unfold pairB
    rw [pairB_len (fun e => h (by simp [e])), Bool.and_false]
theorem pairB_take : ∀ (p q : List Pc) (k : Nat) (h1 : k < p.length) (h2 : k < q.length), pairB (p.take (k + 1)) (q.take (k + 1)) = (pairB (p.take k) (q.take k) && coversB p[k] q[k])
  | [], _, _, h, _ => absurd h (by simp)
  | _ :: _, [], _, _, h => absurd h (by simp)
  | a :: p, b :: q, 0, _, _ => by simp [pairB]
  | a :: p, b :: q, k + 1, h1, h2 => by
    have := pairB_take p q k (by simpa using h1) (by simpa using h2)
    simp only [List.take_succ_cons, pairB, List.getElem_cons_succ]
    rw [this, Bool.and_assoc]
theorem pairB_cut : ∀ (p q : List Pc) (k : Nat), pairB p q = true → pairB (p.take k) (q.take k) = true
  | [], [], k, _ => by simp [pairB]
  | [], _ :: _, _, h => by simp [pairB] at h
  | _ :: _, [], _, h => by simp [pairB] at h
  | a :: p, b :: q, 0, _ => by simp [pairB]
  | a :: p, b :: q, k + 1, h => by
    simp only [pairB, Bool.and_eq_true] at h
    simp only [List.take_succ_cons, pairB, Bool.and_eq_true]
    exact ⟨h.1, pairB_cut p q k h.2⟩
theorem pairB_not {p q : List Pc} {k : Nat} (h : pairB (p.take k) (q.take k) = false) : pairB p q = false := by
  cases hp : pairB p q
  · rfl
  · rw [pairB_cut p q k hp] at h; cases h

theorem sumA_snoc (q : List Pc) (x : Pc) : sumA (q ++ [x]) = sumA q + sizeA x := by simp [sumA]
theorem sumZ_snoc (q : List Pc) (x : Pc) : sumZ (q ++ [x]) = sumZ q + sizeZ x := by simp [sumZ]

theorem size_ok {x : Pc} (h : runB x = true ∨ plainB x = true) (ht : x.t.length ≤ 1000) : 0 ≤ sizeA x ∧ sizeA x ≤ 1000 ∧ 0 ≤ sizeZ x ∧ sizeZ x ≤ 1000 := by
  unfold sizeA sizeZ
  rcases h with h | h
  · obtain ⟨h1, h2, h3, h4, h5, h6, h7⟩ := runB_iff.1 h
    rw [if_neg (by omega), if_neg (by omega)]
    omega
  · obtain ⟨h1, h2, h3, h4, h5⟩ := plainB_iff.1 h
    rw [if_pos h1, if_pos h1]
    omega
theorem sum_ok : ∀ (q : List Pc), (∀ x ∈ q, (runB x = true ∨ plainB x = true) ∧ x.t.length ≤ 1000) → 0 ≤ sumA q ∧ sumA q ≤ 1000 * q.length ∧ 0 ≤ sumZ q ∧ sumZ q ≤ 1000 * q.length
  | [], _ => by simp [sumA, sumZ]
  | x :: q, h => by
    have h1 := sum_ok q (fun y hy => h y (List.mem_cons_of_mem _ hy))
    have h2 := size_ok (h x List.mem_cons_self).1 (h x List.mem_cons_self).2
    have e1 : sumA (x :: q) = sizeA x + sumA q := by simp [sumA]
    have e2 : sumZ (x :: q) = sizeZ x + sumZ q := by simp [sumZ]
    rw [e1, e2, List.length_cons]
    omega

/-- The program's test of a literal: all four fields alike. -/
theorem same_plain {a b : Pc} (ha : runB a = true ∨ plainB a = true) (hb : runB b = true ∨ plainB b = true) (hc : a.c = 0) : (decide (b.c = 0) && decide (a.t = b.t)) = (decide (a.c = b.c) && decide (a.l = b.l) && decide (a.m = b.m) && decide (a.t = b.t)) := by
  have h1 : plainB a = true := ha.resolve_left (fun h => by have := (runB_iff.1 h).1; omega)
  obtain ⟨_, q2, q3, _⟩ := plainB_iff.1 h1
  rw [Bool.eq_iff_iff]
  simp only [Bool.and_eq_true, decide_eq_true_eq]
  constructor
  · rintro ⟨h2, h3⟩
    have h4 : plainB b = true := hb.resolve_left (fun h => by have := (runB_iff.1 h).1; omega)
    obtain ⟨r1, r2, r3, _⟩ := plainB_iff.1 h4
    exact ⟨⟨⟨by omega, by omega⟩, by omega⟩, h3⟩
  · rintro ⟨⟨⟨h2, _⟩, _⟩, h3⟩
    exact ⟨by omega, h3⟩

end Go.Proofs.YtddjbfmohibgbaaDoor
