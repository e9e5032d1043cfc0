/- Whether all bytes of a string lie in a class; whether a string is a text. -/
import Derived.Test.YtddjbfmohibgbaaDoorCls
import Derived.Lib.ConvBytes
namespace Go.Proofs.YtddjbfmohibgbaaDoor
open Go.RowKit

theorem run_bytes (w : World) (s : ByteArray) : (convert 9 41 (.string s)).run Tryd.prog w = .ok (.slice (some ⟨w.heap.size, 0, none⟩) s.size (grownCap w s.size 0 5)) (Lib.bytesWorld w 5 s) :=
  Lib.run_convert_string_bytes w 9 41 5 s Tryd.underlying9 Tryd.underlying41 Tryd.underlying5

theorem bytesWorld_only (w : World) (s : ByteArray) : Only Nob w (Lib.bytesWorld w 5 s) := by
  refine ⟨?_, ?_, ?_, ?_, fun k hk _ => Lib.bytesWorld_at_old w 5 s k hk⟩
  · simp [Lib.bytesWorld, World.freeze, World.alloc, World.drew, -World.alloc_eq, -World.drew_eq]
  · simp [Lib.bytesWorld, World.freeze, World.alloc, World.drew, -World.alloc_eq, -World.drew_eq]
  · simp [Lib.bytesWorld, World.freeze, World.alloc, World.drew, -World.alloc_eq, -World.drew_eq]
  · rw [Lib.bytesWorld_size]; omega

theorem getD_lt {α : Type} (l : List α) {j : Nat} (h : j < l.length) {d : α} : l.getD j d = l[j] := by
  rw [List.getD_eq_getElem?_getD, List.getElem?_eq_getElem h]
  rfl

/-- What a function says that leaves the world but for new blocks. -/
def BoolPost (b : Bool) (w : World) (e : Ending) (w' : World) : Prop := e = .returned (.bool b) ∧ Only Nob w w'

set_option maxHeartbeats 1000000 in
theorem all_any (s : ByteArray) (k : Int) (w : World) (hs : s.size ≤ 9223372036854775807) : Calls Tryd.prog 99 #[.string s, .int .i64 k] w (BoolPost (allB s.data.toList k) w) := by
  have hb := run_bytes w s
  have hO := Lib.hid (bytesWorld_only w s)
  have hc := Lib.bytesWorld_cell w 5 s
  have HC := Lib.hid hc
  clear hc
  generalize Lib.bytesWorld w 5 s = w1 at hb hO HC
  go_enter Tryd.func99, Tryd.ntmps99
  go_wp2_with fail
  go_loop [10] (fun i => ∃ j : Nat, j ≤ s.size ∧ i = .int .i64 j ∧ allB (s.data.toList.take j) k = true) (fun i => s.size - (intOf i).toNat)
  case atStart => exact ⟨0, Nat.zero_le _, rfl, rfl⟩
  case round =>
    obtain ⟨j, hj, rfl, hall⟩ := hrel
    have HA := Lib.hid hall
    clear hall
    clear hb
    by_cases hlt : j < s.size
    · have hl : j < s.data.toList.length := by simpa using hlt
      have hcell := HC.out j hlt
      rw [getD_lt _ hl] at hcell
      have ht := Lib.hid (allB_take_succ s.data.toList j hl k)
      have hf := Lib.hid (fun h => allB_false (g := k) hl h)
      generalize s.data.toList[j] = c at hcell ht hf
      cases hcc : cin (cls c) k
      · have R := Lib.hid (show ∀ w, Calls Tryd.prog 113 #[.int .i64 (cls c), .int .i64 k] w fun e w' => e = .returned (.bool false) ∧ w = w' from fun w => by have := contained_any (cls c) k w; rw [hcc] at this; exact this)
        have HF := Lib.hid (hf.out hcc)
        clear hcc ht hf HA
        go_wp2_with (first | (go_at_call 30; refine (class_any _ _).mono ?_; rintro e w' ⟨rfl, rfl⟩) | (go_at_call 113; refine (R.out _).mono ?_; rintro e w' ⟨rfl, rfl⟩))
        go_ret
        exact ⟨ret_bool HF.out.symm, hO.out⟩
      · have R := Lib.hid (show ∀ w, Calls Tryd.prog 113 #[.int .i64 (cls c), .int .i64 k] w fun e w' => e = .returned (.bool true) ∧ w = w' from fun w => by have := contained_any (cls c) k w; rw [hcc] at this; exact this)
        have HT : Hid (allB (s.data.toList.take (j + 1)) k = true) := by
          have h := ht.out
          rw [HA.out, hcc] at h
          exact h
        clear hcc ht hf HA
        go_wp2_with (first | (go_at_call 30; refine (class_any _ _).mono ?_; rintro e w' ⟨rfl, rfl⟩) | (go_at_call 113; refine (R.out _).mono ?_; rintro e w' ⟨rfl, rfl⟩))
        go_round
        case rel => exact ⟨j + 1, by omega, by go_num, HT.out⟩
        case measure => simp [intOf]; omega
    · go_wp2
      go_ret
      have h := HA.out
      rw [List.take_of_length_le (by simp; omega)] at h
      exact ⟨ret_bool h.symm, hO.out⟩

set_option maxHeartbeats 1000000 in
theorem rall_any (s : ByteArray) (k : Int) (w : World) (hs : s.size ≤ 9223372036854775807) : Calls Tryd.prog 70 #[.string s, .int .i64 k] w fun e w' => e = .returned (.bool (allB s.data.toList k)) ∧ w = w' := by
  go_enter Tryd.func70, Tryd.ntmps70
  go_wp2_with fail
  go_loop [5] (fun i => ∃ j : Nat, j ≤ s.size ∧ i = .int .i64 j ∧ allB (s.data.toList.take j) k = true) (fun i => s.size - (intOf i).toNat)
  case atStart => exact ⟨0, Nat.zero_le _, rfl, rfl⟩
  case round =>
    obtain ⟨j, hj, rfl, hall⟩ := hrel
    have HA := Lib.hid hall
    clear hall
    by_cases hlt : j < s.size
    · have hl : j < s.data.toList.length := by simpa using hlt
      have ht := Lib.hid (allB_take_succ s.data.toList j hl k)
      have hf := Lib.hid (fun h => allB_false (g := k) hl h)
      cases hcc : cin (cls s.data.toList[j]) k
      · have R := Lib.hid (show ∀ w, Calls Tryd.prog 111 #[.int .u8 (s[j].toNat : Int), .int .i64 k] w fun e w' => e = .returned (.bool false) ∧ w = w' from fun w => by have := belongs_any s.data.toList[j] k w; rw [hcc] at this; exact this)
        have HF := Lib.hid (hf.out hcc)
        clear hcc ht hf HA
        go_wp2_with (first | (go_at_call 111; refine (R.out _).mono ?_; rintro e w' ⟨rfl, rfl⟩))
        go_ret
        exact ⟨ret_bool HF.out.symm, rfl⟩
      · have R := Lib.hid (show ∀ w, Calls Tryd.prog 111 #[.int .u8 (s[j].toNat : Int), .int .i64 k] w fun e w' => e = .returned (.bool true) ∧ w = w' from fun w => by have := belongs_any s.data.toList[j] k w; rw [hcc] at this; exact this)
        have HT : Hid (allB (s.data.toList.take (j + 1)) k = true) := by
          have h := ht.out
          rw [HA.out, hcc] at h
          exact h
        clear hcc ht hf HA
        go_wp2_with (first | (go_at_call 111; refine (R.out _).mono ?_; rintro e w' ⟨rfl, rfl⟩))
        go_round
        case rel => exact ⟨j + 1, by omega, by go_num, HT.out⟩
        case measure => simp [intOf]; omega
    · go_wp2
      go_ret
      have h := HA.out
      rw [List.take_of_length_le (by simp; omega)] at h
      exact ⟨ret_bool h.symm, rfl⟩

theorem text_any (s : ByteArray) (w : World) (hs : s.size ≤ 9223372036854775807) : Calls Tryd.prog 63 #[.string s] w (BoolPost (textB s.data.toList) w) := by
  by_cases h : s.size ≤ 200
  · have e : textB s.data.toList = allB s.data.toList 7 := by unfold textB; simp [h]
    have R := Lib.hid (fun w => all_any s 7 w hs)
    rw [e]
    clear e
    go_enter Tryd.func63, Tryd.ntmps63
    go_wp2_with (go_at_call 99; refine (R.out _).mono ?_; rintro e w' ⟨rfl, o1⟩)
    go_ret
    exact ⟨rfl, o1⟩
  · have e : textB s.data.toList = false := by unfold textB; simp [h]
    rw [e]
    clear e
    go_enter Tryd.func63, Tryd.ntmps63
    go_wp2_with fail
    go_ret
    exact ⟨rfl, Only.refl _ _⟩

theorem rtext_any (s : ByteArray) (w : World) (hs : s.size ≤ 9223372036854775807) : Calls Tryd.prog 36 #[.string s] w fun e w' => e = .returned (.bool (textB s.data.toList)) ∧ w = w' := by
  by_cases h : s.size ≤ 200
  · have e : textB s.data.toList = allB s.data.toList 7 := by unfold textB; simp [h]
    have R := Lib.hid (fun w => rall_any s 7 w hs)
    rw [e]
    clear e
    go_enter Tryd.func36, Tryd.ntmps36
    go_wp2_with (go_at_call 70; refine (R.out _).mono ?_; rintro e w' ⟨rfl, rfl⟩)
    go_ret
    exact ⟨rfl, rfl⟩
  · have e : textB s.data.toList = false := by unfold textB; simp [h]
    rw [e]
    clear e
    go_enter Tryd.func36, Tryd.ntmps36
    go_wp2_with fail
    go_ret
    exact ⟨rfl, rfl⟩

end Go.Proofs.YtddjbfmohibgbaaDoor
