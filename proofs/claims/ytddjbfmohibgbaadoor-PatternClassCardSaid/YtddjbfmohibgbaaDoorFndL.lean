/- Finds, in plain words. No program is looked at. -/
import Derived.Test.YtddjbfmohibgbaaDoorMat
namespace Go.Proofs.YtddjbfmohibgbaaDoor

/-- The greatest end behind an offset that a row marks, from e down; the offset itself if there is none. -/
def endF (l : List Bool) (k : Nat) : Nat → Nat
  | 0 => 0
  | e + 1 => if k < e + 1 then (if l.getD (e + 1) false then e + 1 else endF l k e) else e + 1

/-- All finds from an offset on. -/
def findF (p : List Pc) (s : List UInt8) : Nat → Nat → List (Nat × Nat)
  | 0, _ => []
  | f + 1, k =>
    if k < s.length then
      (if k < endF (reachL p s k) k s.length then (k, endF (reachL p s k) k s.length) :: findF p s f (endF (reachL p s k) k s.length) else findF p s f (k + 1))
    else []
def findsL (p : List Pc) (s : List UInt8) : List (Nat × Nat) := if rightB p && textB s then findF p s s.length 0 else []

end Go.Proofs.YtddjbfmohibgbaaDoor
