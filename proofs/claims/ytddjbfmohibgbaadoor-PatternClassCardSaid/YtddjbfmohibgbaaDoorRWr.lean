/- The reference's written form. -/
import Derived.Test.YtddjbfmohibgbaaDoorWr
namespace Go.Proofs.YtddjbfmohibgbaaDoor
open Go.RowKit

theorem str_val {x : ByteArray} {l : List UInt8} (h : x.data.toList = l) : Value.string x = .string ⟨l.toArray⟩ := by
  rw [← h]

set_option maxHeartbeats 1000000 in
theorem rspecial_any (c : UInt8) (w : World) : Calls Tryd.prog 108 #[.int .u8 c.toNat] w fun e w' => e = .returned (.bool (special c)) ∧ w = w' := by
  have H : Hid (special c = (decide (c.toNat = 92) || decide (c.toNat = 123) || decide (c.toNat = 125) || decide (c.toNat = 43) || decide (c.toNat = 42))) := by
    show special c = _
    unfold special
    have f : ∀ a : UInt8, (c == a) = decide (c.toNat = a.toNat) := fun a => by
      rw [Bool.eq_iff_iff]; simp [← UInt8.toNat_inj]
    rw [f, f, f, f, f]; rfl
  have hc := c.toNat_lt
  generalize c.toNat = n at H hc ⊢
  go_enter Tryd.func108, Tryd.ntmps108
  go_wp2
  all_goals
    go_ret
    refine ⟨ret_bool ?_, rfl⟩
    rw [H.out, Bool.eq_iff_iff]
    simp at *
    try omega

theorem digit_slice (j : Nat) (hj : j < 10) (w : World) : (Instr.slice 9 (.string ⟨#[48, 49, 50, 51, 52, 53, 54, 55, 56, 57]⟩) (some (.int .i64 (j : Int))) (some (.int .i64 ((j : Int) + 1))) none).run Tryd.prog w = .ok (.string ⟨#[dig j]⟩) w := by
  have h := run_slice_string (P := Tryd.prog) (w := w) 9 ⟨#[48, 49, 50, 51, 52, 53, 54, 55, 56, 57]⟩ .i64 .i64 (j : Int) ((j : Int) + 1) Tryd.underlying9 (by omega) (by omega) (by show ((j : Int) + 1) ≤ 10; omega)
  rw [h]
  have hc : j = 0 ∨ j = 1 ∨ j = 2 ∨ j = 3 ∨ j = 4 ∨ j = 5 ∨ j = 6 ∨ j = 7 ∨ j = 8 ∨ j = 9 := by omega
  rcases hc with rfl | rfl | rfl | rfl | rfl | rfl | rfl | rfl | rfl | rfl <;> rfl

theorem dec1 (n : Nat) (h : n < 10) (w : World) : Calls Tryd.prog 109 #[.int .i64 n] w (StrPost (dec n) w) := by
  have e : dec n = [dig n] := by unfold dec; rw [if_pos h]
  rw [e]
  have sl := digit_slice n h
  clear e
  go_enter Tryd.func109, Tryd.ntmps109
  go_wp2
  go_ret
  exact ⟨rfl, Only.refl _ _⟩

theorem dec_next (n q : Nat) (hq : q = n / 10) (h1 : 10 ≤ n) (h2 : n < 1000) (D : ∀ w, Calls Tryd.prog 109 #[.int .i64 q] w (StrPost (dec q) w)) (w : World) :
    Calls Tryd.prog 109 #[.int .i64 n] w (StrPost (dec n) w) := by
  obtain ⟨r, hr⟩ : ∃ r : Nat, r = n % 10 := ⟨_, rfl⟩
  have e : dec n = dec q ++ [dig r] := by
    unfold dec
    subst hq hr
    by_cases h3 : n < 100
    · rw [if_neg (by omega), if_pos h3, if_pos (by omega)]; rfl
    · rw [if_neg (by omega), if_neg h3, if_neg (by omega), if_pos (by omega)]
      have e1 : n / 10 / 10 = n / 100 := by omega
      rw [e1]; rfl
  have E := Lib.hid e
  have sl := digit_slice r (by omega)
  have w1 : ((n : Int)).tdiv 10 = (q : Int) := by rw [Int.tdiv_eq_ediv_of_nonneg (by omega)]; omega
  have w2 : ((n : Int)).tmod 10 = (r : Int) := by rw [Int.tmod_eq_emod_of_nonneg (by omega)]; omega
  have w3 : ((n : Int)) / 10 = (q : Int) := by omega
  have w4 : ((n : Int)) % 10 = (r : Int) := by omega
  have w5 : IntKind.i64.wrap ((q : Nat) : Int) = (q : Int) := IntWalk.i64_in _ (by omega)
  have w6 : IntKind.i64.wrap ((r : Int) + 1) = (r : Int) + 1 := IntWalk.i64_in _ (by omega)
  have D' := Lib.hid D
  obtain ⟨Q, hQ⟩ : ∃ Q : ByteArray, Q = ⟨(dec q).toArray⟩ := ⟨_, rfl⟩
  have hl : Q.size ≤ 3 := by rw [hQ]; exact length_dec q
  have HE := Lib.hid (show (Q ++ ⟨#[dig r]⟩ : ByteArray).data.toList = dec n by rw [hQ, e]; simp [ByteArray.data_append])
  unfold StrPost at D'
  simp only [← hQ] at D'
  have s1 : ∀ w, (Op.stringOp .add Q ⟨#[dig r]⟩).run Tryd.prog w = .ok (.string (Q ++ ⟨#[dig r]⟩)) w := fun w => run_string_add_sum w _ _ (by simp only [sz1]; omega)
  clear hq hr D e E hQ
  go_enter Tryd.func109, Tryd.ntmps109
  go_wp2_with fail
  go_region_held3 (fun _ => True) (trivial)
    (first
      | (go_at_call 109; (with_reducible refine (D'.out _).mono ?_); rintro e w2 ⟨rfl, o2⟩)
      | fail)
  go_wp2
  go_ret
  exact ⟨ret_str HE.out, (Only.drew Nob _).nob o2⟩

theorem rdec_any (n : Nat) (h : n < 1000) (w : World) : Calls Tryd.prog 109 #[.int .i64 n] w (StrPost (dec n) w) := by
  rcases Nat.lt_or_ge n 10 with h1 | h1
  · exact dec1 n h1 w
  · refine dec_next n (n / 10) rfl h1 h (fun w => ?_) w
    rcases Nat.lt_or_ge (n / 10) 10 with h2 | h2
    · exact dec1 _ h2 w
    · exact dec_next (n / 10) (n / 10 / 10) rfl h2 (by omega) (fun w => dec1 _ (by omega) w) w

end Go.Proofs.YtddjbfmohibgbaaDoor
