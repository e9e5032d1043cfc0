/- Matches: the program's function. -/
import Derived.Test.YtddjbfmohibgbaaDoorReach
import Derived.Test.YtddjbfmohibgbaaDoorRight
namespace Go.Proofs.YtddjbfmohibgbaaDoor
open Go.RowKit

set_option maxRecDepth 100000 in
set_option maxHeartbeats 2000000 in
theorem matches_any (v : Value) (p : List Pc) (s : List UInt8) (w : World) (hp : Pcs w v p) (hg : Fair p) (ht : Tab w) (hs : s.length ≤ 9223372036854775807) : Calls Tryd.prog 26 #[v, .string ⟨s.toArray⟩] w (BoolPost (matchB p s) w) := by
  have R := Lib.hid (right_any v p w hp hg ht)
  have T := Lib.hid (fun w => text_any ⟨s.toArray⟩ w hs)
  have e1 : (⟨s.toArray⟩ : ByteArray).data.toList = s := rfl
  rw [e1] at T
  clear e1
  cases hr : rightB p
  · have HE : Hid (matchB p s = false) := by show _ = _; unfold matchB; rw [hr]; rfl
    rw [hr] at R
    clear hr
    go_enter Tryd.func26, Tryd.ntmps26
    go_wp2_with (go_at_call 57; refine R.out.mono ?_; rintro e w2 ⟨rfl, o2⟩)
    go_ret
    exact ⟨ret_bool HE.out.symm, o2⟩
  cases hx : textB s
  · have HE : Hid (matchB p s = false) := by show _ = _; unfold matchB; rw [hr, hx]; rfl
    rw [hr] at R
    rw [hx] at T
    clear hr hx
    go_enter Tryd.func26, Tryd.ntmps26
    go_wp2_with fail
    refine R.out.mono ?_
    rintro e w2 ⟨rfl, o2⟩
    go_wp2_with fail
    refine (T.out _).mono ?_
    rintro e w3 ⟨rfl, o3⟩
    go_wp2
    go_ret
    exact ⟨ret_bool HE.out.symm, o2.nob o3⟩
  · have HE : Hid (matchB p s = (reachL p s 0).getD s.length false) := by show _ = _; unfold matchB; rw [hr, hx]; rfl
    have hl : s.length ≤ 200 := by
      unfold textB at hx
      simp only [Bool.and_eq_true, decide_eq_true_eq] at hx
      exact hx.1
    have RC := Lib.hid (fun w2 (o2 : Only Nob w w2) => reach_any v p s 0 w2 (hp.nob o2) hg (by omega) (Nat.zero_le _))
    rw [hr] at R
    rw [hx] at T
    clear hr hx
    go_enter Tryd.func26, Tryd.ntmps26
    go_wp2_with fail
    refine R.out.mono ?_
    rintro e w2 ⟨rfl, o2⟩
    go_wp2_with fail
    refine (T.out _).mono ?_
    rintro e w3 ⟨rfl, o3⟩
    go_wp2_with fail
    refine (RC.out _ (o2.nob o3)).mono ?_
    rintro e w4 ⟨g, rfl, hrow, o4⟩
    have hlr := length_reachL p s 0
    have hce := hrow.cell (i := s.length) (by omega)
    have hv : (reachL p s 0).getD s.length false = (reachL p s 0)[s.length]'(by omega) := getD_lt _ (by omega)
    rw [← hv] at hce
    have h1 : s.length < s.length + 1 := by omega
    have h2 : (s.length : Int) < (s.length : Int) + 1 := by omega
    clear hv hrow hlr
    generalize (reachL p s 0).getD s.length false = bb at hce HE
    go_wp2
    go_ret
    exact ⟨ret_bool HE.out.symm, (o2.nob o3).nob o4⟩

end Go.Proofs.YtddjbfmohibgbaaDoor
