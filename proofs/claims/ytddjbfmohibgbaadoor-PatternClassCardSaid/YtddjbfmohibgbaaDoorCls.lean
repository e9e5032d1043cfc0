/- The classes of bytes: the program's functions and the reference's. -/
import Derived.Test.YtddjbfmohibgbaaDoorBase
import Derived.Test.YtddjbfmohibgbaaDoorLaw
namespace Go.Proofs.YtddjbfmohibgbaaDoor
open Go.RowKit

theorem ret_int {k : IntKind} {a b : Int} (h : a = b) : Ending.returned (.int k a) = .returned (.int k b) := by rw [h]
theorem ret_bool {a b : Bool} (h : a = b) : Ending.returned (.bool a) = .returned (.bool b) := by rw [h]

set_option maxHeartbeats 1000000 in
theorem class_n (n : Nat) (w : World) (_h : n < 256) : Calls Tryd.prog 30 #[.int .u8 n] w fun e w' => e = .returned (.int .i64 (clsN n)) ∧ w = w' := by
  go_enter Tryd.func30, Tryd.ntmps30
  go_wp2
  all_goals
    go_ret
    refine ⟨ret_int ?_, rfl⟩
    try simp at *
    unfold clsN
    repeat' split
    all_goals omega

set_option maxHeartbeats 1000000 in
theorem rclass_n (n : Nat) (w : World) (_h : n < 256) : Calls Tryd.prog 31 #[.int .u8 n] w fun e w' => e = .returned (.int .i64 (clsN n)) ∧ w = w' := by
  go_enter Tryd.func31, Tryd.ntmps31
  go_wp2
  all_goals
    go_ret
    refine ⟨ret_int ?_, rfl⟩
    try simp at *
    unfold clsN
    repeat' split
    all_goals omega

set_option maxHeartbeats 1000000 in
theorem contained_any (a k : Int) (w : World) : Calls Tryd.prog 113 #[.int .i64 a, .int .i64 k] w fun e w' => e = .returned (.bool (cin a k)) ∧ w = w' := by
  go_enter Tryd.func113, Tryd.ntmps113
  go_wp2
  all_goals
    go_ret
    refine ⟨ret_bool ?_, rfl⟩
    rw [Bool.eq_iff_iff]
    simp [cin] at *
    try omega

set_option maxHeartbeats 1000000 in
/-- The reference's: of a class that is one. -/
theorem rcontained_any (a k : Int) (w : World) (_h : 0 < a) : Calls Tryd.prog 71 #[.int .i64 a, .int .i64 k] w fun e w' => e = .returned (.bool (cin a k)) ∧ w = w' := by
  go_enter Tryd.func71, Tryd.ntmps71
  go_wp2
  all_goals
    go_ret
    refine ⟨ret_bool ?_, rfl⟩
    rw [Bool.eq_iff_iff]
    simp [cin] at *
    try omega

theorem class_any (c : UInt8) (w : World) : Calls Tryd.prog 30 #[.int .u8 c.toNat] w fun e w' => e = .returned (.int .i64 (cls c)) ∧ w = w' := class_n _ w c.toNat_lt
theorem rclass_any (c : UInt8) (w : World) : Calls Tryd.prog 31 #[.int .u8 c.toNat] w fun e w' => e = .returned (.int .i64 (cls c)) ∧ w = w' := rclass_n _ w c.toNat_lt

theorem belongs_any (c : UInt8) (k : Int) (w : World) : Calls Tryd.prog 111 #[.int .u8 c.toNat, .int .i64 k] w fun e w' => e = .returned (.bool (cin (cls c) k)) ∧ w = w' := by
  have hb := (cls_rng c).1
  by_cases h : 0 < cls c
  · go_enter Tryd.func111, Tryd.ntmps111
    go_wp2_with (first | (go_at_call 31; refine (rclass_any _ _).mono ?_; rintro e w' ⟨rfl, rfl⟩) | (go_at_call 71; refine (rcontained_any _ _ _ h).mono ?_; rintro e w' ⟨rfl, rfl⟩))
    go_ret
    exact ⟨rfl, rfl⟩
  · have hz : cls c = 0 := by omega
    have hc : cin (cls c) k = false := by rw [hz]; rfl
    rw [hc]
    have R := Lib.hid (rclass_any c)
    rw [hz] at R
    clear h hb hz hc
    go_enter Tryd.func111, Tryd.ntmps111
    go_wp2_with (first | (go_at_call 31; refine (R.out _).mono ?_; rintro e w' ⟨rfl, rfl⟩))
    go_ret
    exact ⟨rfl, rfl⟩

end Go.Proofs.YtddjbfmohibgbaaDoor
