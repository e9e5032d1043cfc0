/- What the sanity check calls: read, fails. -/
import Derived.Test.YtddjbfmohibgbaaDoorRPars
namespace Go.Proofs.YtddjbfmohibgbaaDoor
open Go.RowKit

theorem read_any (s : List UInt8) (P : List Pc) (w : World) (hs : s.length ≤ 60) (hnb : ∀ k, (peekL s k).toNat ≠ 123) (hP : piecesF s s.length 0 [] = .ok P) :
    Calls Tryd.prog 56 #[.string ⟨s.toArray⟩] w fun e w' => ∃ v, e = .returned v ∧ OwnP w' v P ∧ Only Nob w w' := by
  have R := Lib.hid (rparse_any s P w hs hnb hP)
  clear hnb hP
  go_enter Tryd.func56, Tryd.ntmps56
  go_wp2_with fail
  refine R.out.mono ?_
  rintro e w1 ⟨v, rfl, hown, ho⟩
  obtain ⟨ao, cap, rfl⟩ := hown.form
  have H := Lib.hid (And.intro hown ho)
  clear hown ho R
  go_wp2
  go_ret
  exact ⟨_, rfl, H.out.1, H.out.2⟩

theorem fails_any (s : List UInt8) (a x : Nat) (w : World) (hs : s.length ≤ 60) (h : parseL s = .error (a, x)) :
    Calls Tryd.prog 55 #[.string ⟨s.toArray⟩, .int .i64 (a : Int), .int .i64 (x : Int)] w fun e w' => e = .returned (.bool true) ∧ Only Nob w w' := by
  have R := Lib.hid (parse_any s w (by omega))
  rw [h] at R
  clear h
  go_enter Tryd.func55, Tryd.ntmps55
  go_wp2_with fail
  refine R.out.mono ?_
  rintro e w1 ⟨ho, rfl⟩
  have H := Lib.hid ho
  clear ho R
  go_wp2
  go_ret
  exact ⟨rfl, H.out⟩

theorem reads_ul : piecesF [92, 117, 92, 108, 42] 5 0 [] = .ok [⟨2, 1, 1, []⟩, ⟨3, 0, 200, []⟩] := by rfl
theorem reads_d : piecesF [92, 100, 43] 3 0 [] = .ok [⟨1, 1, 200, []⟩] := by rfl
theorem reads_a : piecesF [92, 97, 43] 3 0 [] = .ok [⟨4, 1, 200, []⟩] := by rfl
theorem reads_one : parseL [92, 100, 123, 52, 125, 45, 92, 100, 43] = .ok [⟨1, 4, 4, []⟩, ⟨0, 0, 0, [45]⟩, ⟨1, 1, 200, []⟩] := by rfl
theorem bad_x : parseL [92, 120] = .error (1, 12) := by rfl
theorem bad_a : parseL [97, 43] = .error (1, 12) := by rfl
theorem bad_52 : parseL [92, 100, 123, 53, 44, 50, 125] = .error (2, 3) := by rfl
theorem bad_dx : parseL [92, 100, 123, 120, 125] = .error (3, 12) := by rfl

end Go.Proofs.YtddjbfmohibgbaaDoor
