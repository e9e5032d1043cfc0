/- The sanity check of chapter 05: it holds. -/
import Derived.Test.YtddjbfmohibgbaaDoorRParA
import Derived.Test.YtddjbfmohibgbaaDoorFndA
import Derived.Test.YtddjbfmohibgbaaDoorCovA
namespace Go.Proofs.YtddjbfmohibgbaaDoor
open Go.RowKit

def PsOne : List Pc := [⟨1, 4, 4, []⟩, ⟨0, 0, 0, [45]⟩, ⟨1, 1, 200, []⟩]
def PsUl : List Pc := [⟨2, 1, 1, []⟩, ⟨3, 0, 200, []⟩]
def PsD : List Pc := [⟨1, 1, 200, []⟩]
def PsA : List Pc := [⟨4, 1, 200, []⟩]

theorem fair_one : Fair PsOne := ⟨by decide, by
  intro x hx
  simp only [PsOne, List.mem_cons, List.not_mem_nil, or_false] at hx
  rcases hx with rfl | rfl | rfl <;> exact ⟨by unfold Rng; decide, by unfold Rng; decide, by unfold Rng; decide, by decide⟩⟩
theorem fair_ul : Fair PsUl := ⟨by decide, by
  intro x hx
  simp only [PsUl, List.mem_cons, List.not_mem_nil, or_false] at hx
  rcases hx with rfl | rfl <;> exact ⟨by unfold Rng; decide, by unfold Rng; decide, by unfold Rng; decide, by decide⟩⟩
theorem fair_d : Fair PsD := ⟨by decide, by
  intro x hx
  simp only [PsD, List.mem_cons, List.not_mem_nil, or_false] at hx
  subst hx
  exact ⟨by unfold Rng; decide, by unfold Rng; decide, by unfold Rng; decide, by decide⟩⟩
theorem fair_a : Fair PsA := ⟨by decide, by
  intro x hx
  simp only [PsA, List.mem_cons, List.not_mem_nil, or_false] at hx
  subst hx
  exact ⟨by unfold Rng; decide, by unfold Rng; decide, by unfold Rng; decide, by decide⟩⟩

theorem ps_print : printS PsOne = [92, 100, 123, 52, 125, 45, 92, 100, 43] := by decide
theorem ps_m1 : matchB PsUl [65, 98] = true := by decide
theorem ps_m2 : matchB PsUl [65] = true := by decide
theorem ps_m3 : matchB PsUl [65, 66] = false := by decide
theorem ps_f2 : findR (findsL PsD [97, 49, 50, 98, 51, 52, 53]) 2 = (4, 7, true) := by decide
theorem ps_f3 : findR (findsL PsD [97, 49, 50, 98, 51, 52, 53]) 3 = (0, 0, false) := by decide
theorem ps_c1 : coverB PsA PsUl = true := by decide
theorem ps_c2 : coverB PsUl PsA = false := by decide

theorem no_brace {s : List UInt8} (h : ∀ c ∈ s, c.toNat ≠ 123) (k : Nat) : (peekL s k).toNat ≠ 123 := by
  unfold peekL
  rw [List.getD_eq_getElem?_getD]
  cases hk : s[k]? with
  | none => decide
  | some c => exact h c (List.mem_of_getElem? hk)

theorem sane_parse (w : World) : Calls Tryd.prog 19 #[.string ⟨#[92, 100, 123, 52, 125, 45, 92, 100, 43]⟩] w fun e w' => ∃ ao cap, e = .returned (.tuple #[.slice ao 3 cap, .int .i64 0, .int .i64 0]) ∧ Pcs w' (.slice ao 3 cap) PsOne ∧ Only Nob w w' := by
  have h := parse_any [92, 100, 123, 52, 125, 45, 92, 100, 43] w (by decide)
  rw [reads_one] at h
  refine h.mono ?_
  rintro e w' ⟨ho, v, rfl, hv, _⟩
  obtain ⟨ao, cap, rfl⟩ := hv.form
  exact ⟨ao, cap, rfl, hv.pcs, ho⟩
theorem sane_print (v : Value) (w : World) (h : Pcs w v PsOne) (ht : Tab w) : Calls Tryd.prog 18 #[v] w (StrPost [92, 100, 123, 52, 125, 45, 92, 100, 43] w) := by
  have h := print_any v PsOne w h fair_one ht
  rw [ps_print] at h
  exact h
theorem sane_ul (w : World) : Calls Tryd.prog 56 #[.string ⟨#[92, 117, 92, 108, 42]⟩] w fun e w' => ∃ ao cap, e = .returned (.slice ao 2 cap) ∧ Pcs w' (.slice ao 2 cap) PsUl ∧ Only Nob w w' := by
  refine (read_any [92, 117, 92, 108, 42] _ w (by decide) (no_brace (by decide)) reads_ul).mono ?_
  rintro e w' ⟨v, rfl, hv, ho⟩
  obtain ⟨ao, cap, rfl⟩ := hv.form
  exact ⟨ao, cap, rfl, hv.pcs, ho⟩
theorem sane_d (w : World) : Calls Tryd.prog 56 #[.string ⟨#[92, 100, 43]⟩] w fun e w' => ∃ ao cap, e = .returned (.slice ao 1 cap) ∧ Pcs w' (.slice ao 1 cap) PsD ∧ Only Nob w w' := by
  refine (read_any [92, 100, 43] _ w (by decide) (no_brace (by decide)) reads_d).mono ?_
  rintro e w' ⟨v, rfl, hv, ho⟩
  obtain ⟨ao, cap, rfl⟩ := hv.form
  exact ⟨ao, cap, rfl, hv.pcs, ho⟩
theorem sane_a (w : World) : Calls Tryd.prog 56 #[.string ⟨#[92, 97, 43]⟩] w fun e w' => ∃ ao cap, e = .returned (.slice ao 1 cap) ∧ Pcs w' (.slice ao 1 cap) PsA ∧ Only Nob w w' := by
  refine (read_any [92, 97, 43] _ w (by decide) (no_brace (by decide)) reads_a).mono ?_
  rintro e w' ⟨v, rfl, hv, ho⟩
  obtain ⟨ao, cap, rfl⟩ := hv.form
  exact ⟨ao, cap, rfl, hv.pcs, ho⟩
theorem sane_match (v : Value) (s : List UInt8) (b : Bool) (w : World) (h : Pcs w v PsUl) (ht : Tab w) (hs : s.length ≤ 100) (hb : matchB PsUl s = b) : Calls Tryd.prog 26 #[v, .string ⟨s.toArray⟩] w (BoolPost b w) := by
  have h := matches_any v PsUl s w h fair_ul ht (by omega)
  rw [hb] at h
  exact h
theorem sane_find (v : Value) (n : Int) (r : Nat × Nat × Bool) (w : World) (h : Pcs w v PsD) (ht : Tab w) (hr : findR (findsL PsD [97, 49, 50, 98, 51, 52, 53]) n = r) : Calls Tryd.prog 32 #[v, .string ⟨#[97, 49, 50, 98, 51, 52, 53]⟩, .int .i64 n] w fun e w' => e = .returned (.tuple #[.int .i64 (r.1 : Nat), .int .i64 (r.2.1 : Nat), .bool r.2.2]) ∧ Only Nob w w' := by
  have h := find_any v PsD [97, 49, 50, 98, 51, 52, 53] n w h fair_d ht (by decide)
  rw [hr] at h
  exact h
theorem sane_cover (v1 v2 : Value) (p q : List Pc) (b : Bool) (w : World) (h1 : Pcs w v1 p) (h2 : Pcs w v2 q) (f1 : Fair p) (f2 : Fair q) (ht : Tab w) (hb : coverB p q = b) : Calls Tryd.prog 28 #[v1, v2] w (BoolPost b w) := by
  have h := coverP_any v1 v2 p q w h1 h2 f1 f2 ht
  rw [hb] at h
  exact h

set_option maxRecDepth 100000 in
set_option maxHeartbeats 4000000 in
theorem sanity_any (w : World) (ht : Tab w) : Calls Tryd.prog 16 #[] w (BoolPost true w) := by
  have HT := Lib.hid ht
  clear ht
  go_enter Tryd.func16, Tryd.ntmps16
  go_wp2_with fail
  refine (sane_parse w).mono ?_
  rintro e w1 ⟨ao1, cap1, rfl, h1, o1⟩
  have H1 := Lib.hid (And.intro h1 o1)
  clear h1 o1
  go_wp2_with fail
  refine (sane_print _ w1 H1.out.1 (HT.out.other H1.out.2)).mono ?_
  rintro e w2 ⟨rfl, o2⟩
  have O2 := Lib.hid (H1.out.2.nob o2)
  clear o2 H1
  go_wp2_with fail
  refine (fails_any [92, 120] 1 12 w2 (by decide) bad_x).mono ?_
  rintro e w3 ⟨rfl, o3⟩
  have O3 := Lib.hid (O2.out.nob o3)
  clear o3 O2
  go_wp2_with fail
  refine (fails_any [97, 43] 1 12 w3 (by decide) bad_a).mono ?_
  rintro e w4 ⟨rfl, o4⟩
  have O4 := Lib.hid (O3.out.nob o4)
  clear o4 O3
  go_wp2_with fail
  refine (fails_any [92, 100, 123, 53, 44, 50, 125] 2 3 w4 (by decide) bad_52).mono ?_
  rintro e w5 ⟨rfl, o5⟩
  have O5 := Lib.hid (O4.out.nob o5)
  clear o5 O4
  go_wp2_with fail
  refine (fails_any [92, 100, 123, 120, 125] 3 12 w5 (by decide) bad_dx).mono ?_
  rintro e w6 ⟨rfl, o6⟩
  have O6 := Lib.hid (O5.out.nob o6)
  clear o6 O5
  go_wp2_with fail
  refine (sane_ul w6).mono ?_
  rintro e w7 ⟨ao7, cap7, rfl, h7, o7⟩
  have H7 := Lib.hid h7
  have O7 := Lib.hid (O6.out.nob o7)
  clear h7 o7 O6
  go_wp2_with fail
  refine (sane_match _ [65, 98] true w7 H7.out (HT.out.other O7.out) (by decide) ps_m1).mono ?_
  rintro e w8 ⟨rfl, o8⟩
  have H8 := Lib.hid (H7.out.nob o8)
  have O8 := Lib.hid (O7.out.nob o8)
  clear o8 O7 H7
  go_wp2_with fail
  refine (sane_match _ [65] true w8 H8.out (HT.out.other O8.out) (by decide) ps_m2).mono ?_
  rintro e w9 ⟨rfl, o9⟩
  have H9 := Lib.hid (H8.out.nob o9)
  have O9 := Lib.hid (O8.out.nob o9)
  clear o9 O8 H8
  go_wp2_with fail
  refine (sane_match _ [65, 66] false w9 H9.out (HT.out.other O9.out) (by decide) ps_m3).mono ?_
  rintro e w10 ⟨rfl, o10⟩
  have H10 := Lib.hid (H9.out.nob o10)
  have O10 := Lib.hid (O9.out.nob o10)
  clear o10 O9 H9
  go_wp2_with fail
  refine (sane_d w10).mono ?_
  rintro e w11 ⟨ao11, cap11, rfl, h11, o11⟩
  have H11 := Lib.hid h11
  have H10' := Lib.hid (H10.out.nob o11)
  have O11 := Lib.hid (O10.out.nob o11)
  clear h11 o11 O10 H10
  go_wp2_with fail
  refine (sane_find _ 2 _ w11 H11.out (HT.out.other O11.out) ps_f2).mono ?_
  rintro e w12 ⟨rfl, o12⟩
  have H12 := Lib.hid (H10'.out.nob o12)
  have O12 := Lib.hid (O11.out.nob o12)
  clear o12 O11 H10' H11
  go_wp2_with fail
  refine (sane_d w12).mono ?_
  rintro e w13 ⟨ao13, cap13, rfl, h13, o13⟩
  have H13 := Lib.hid h13
  have H12' := Lib.hid (H12.out.nob o13)
  have O13 := Lib.hid (O12.out.nob o13)
  clear h13 o13 O12 H12
  go_wp2_with fail
  refine (sane_find _ 3 _ w13 H13.out (HT.out.other O13.out) ps_f3).mono ?_
  rintro e w14 ⟨rfl, o14⟩
  have H14 := Lib.hid (H12'.out.nob o14)
  have O14 := Lib.hid (O13.out.nob o14)
  clear o14 O13 H12' H13
  go_wp2_with fail
  refine (sane_a w14).mono ?_
  rintro e w15 ⟨ao15, cap15, rfl, h15, o15⟩
  have H15 := Lib.hid h15
  have H14' := Lib.hid (H14.out.nob o15)
  have O15 := Lib.hid (O14.out.nob o15)
  clear h15 o15 O14 H14
  go_wp2_with fail
  refine (sane_cover _ _ PsA PsUl true w15 H15.out H14'.out fair_a fair_ul (HT.out.other O15.out) ps_c1).mono ?_
  rintro e w16 ⟨rfl, o16⟩
  have H16 := Lib.hid (H14'.out.nob o16)
  have O16 := Lib.hid (O15.out.nob o16)
  clear o16 O15 H14' H15
  go_wp2_with fail
  refine (sane_a w16).mono ?_
  rintro e w17 ⟨ao17, cap17, rfl, h17, o17⟩
  have H17 := Lib.hid h17
  have H16' := Lib.hid (H16.out.nob o17)
  have O17 := Lib.hid (O16.out.nob o17)
  clear h17 o17 O16 H16
  go_wp2_with fail
  refine (sane_cover _ _ PsUl PsA false w17 H16'.out H17.out fair_ul fair_a (HT.out.other O17.out) ps_c2).mono ?_
  rintro e w18 ⟨rfl, o18⟩
  have O18 := Lib.hid (O17.out.nob o18)
  clear o18 O17 H16' H17
  go_wp2_with fail
  go_ret
  exact ⟨rfl, O18.out⟩

end Go.Proofs.YtddjbfmohibgbaaDoor
