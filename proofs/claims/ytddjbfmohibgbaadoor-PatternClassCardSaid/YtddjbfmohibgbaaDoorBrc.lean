/- The reader's counts: in braces, and behind a class's letter. -/
import Derived.Test.YtddjbfmohibgbaaDoorNmb
namespace Go.Proofs.YtddjbfmohibgbaaDoor
open Go.RowKit

def twoI (p : Nat × Nat) : Ending := .returned (.tuple #[.int .i64 (p.1 : Int), .int .i64 (p.2 : Int)])

theorem brc_err {s : List UInt8} {op : Nat} {e : Nat × Nat} (h : numL s (op + 1) = .error e) : bracesL s op = .error e := by unfold bracesL; rw [h]
theorem brc_two {s : List UInt8} {op n k : Nat} (h : numL s (op + 1) = .ok (n, k)) (hc : (peekL s k).toNat = 44) : bracesL s op = match numL s (k + 1) with | .error e => .error e | .ok (m, k2) => endB s op n m k2 := by
  unfold bracesL; rw [h]; simp only [if_pos hc]; rfl
theorem brc_one {s : List UInt8} {op n k : Nat} (h : numL s (op + 1) = .ok (n, k)) (hc : ¬ (peekL s k).toNat = 44) : bracesL s op = endB s op n n k := by
  unfold bracesL; rw [h]; simp only [if_neg hc]

set_option maxRecDepth 100000 in
set_option maxHeartbeats 4000000 in
theorem braces_any (g : Nat) (s : List UInt8) (op : Nat) (w : World) (hr : Rd w g s op) (hf : op < s.length) (hs : s.length ≤ 1000) :
    Calls Tryd.prog 129 #[.pointer (some ⟨g, 0, none⟩)] w (PPost (bracesL s op) twoI g s w) := by
  obtain ⟨c0, c1, cf⟩ := hr.cells
  have HS := Lib.hid (hr.set (op + 1))
  have PK := Lib.hid (peek_any g s)
  have NU := Lib.hid (number_any g s (op + 1) (w.setCell ⟨g, 1, none⟩ (.int .i64 ((op + 1 : Nat) : Int))) HS.out hf hs)
  have HO : Hid (Only (Is g) w (w.setCell ⟨g, 1, none⟩ (.int .i64 ((op + 1 : Nat) : Int)))) := (Only.refl _ _).is_set 1 _
  unfold twoI
  go_enter Tryd.func129, Tryd.ntmps129
  go_wp2_with fail
  refine NU.out.mono ?_
  clear hr c0 c1 cf HS NU
  cases hN : numL s (op + 1) with
  | error ae =>
    obtain ⟨a, ae⟩ := ae
    rintro e w1 ⟨o1, rfl⟩
    exact ⟨rfl, PPost.bad (brc_err hN) (HO.out.trans o1 (fun _ _ h => h))⟩
  | ok nk =>
    obtain ⟨n, k⟩ := nk
    rintro e w1 ⟨o1, rfl, r1⟩
    obtain ⟨hk1, hk2, hn2⟩ := numL_ok hf hN
    have HO1 := Lib.hid (HO.out.trans o1 (fun _ _ h => h))
    have HR1 := Lib.hid r1
    have H2 := Lib.hid (brc_two hN)
    have H1 := Lib.hid (brc_one hN)
    clear o1 r1 HO hN
    go_wp2_with fail
    refine (PK.out k _ HR1.out).mono ?_
    rintro e w2 ⟨rfl, o2⟩
    have HO2 := Lib.hid (HO1.out.is_nob o2)
    have HR2 := Lib.hid (HR1.out.other o2 (fun h => h))
    have hc8 := (peekL s k).toNat_lt
    clear o2 HO1 HR1
    by_cases hc : (peekL s k).toNat = 44
    · have h1 := H2.out hc
      have hkl : k < s.length := peekL_some (fun e => by rw [e] at hc; exact absurd hc (by decide))
      clear H2 H1
      obtain ⟨c0, c1, cf⟩ := HR2.out.cells
      have NU := Lib.hid (number_any g s (k + 1) (w2.setCell ⟨g, 1, none⟩ (.int .i64 ((k + 1 : Nat) : Int))) (HR2.out.set (k + 1)) hkl hs)
      have HO3 := Lib.hid (HO2.out.is_set 1 (.int .i64 ((k + 1 : Nat) : Int)))
      have HE := Lib.hid h1
      clear h1 hc8
      generalize (peekL s k).toNat = cN at hc
      subst hc
      go_wp2_with fail
      refine NU.out.mono ?_
      clear c0 c1 cf NU
      cases hN : numL s (k + 1) with
      | error ae =>
        obtain ⟨a, ae⟩ := ae
        rintro e w1 ⟨o1, rfl⟩
        exact ⟨rfl, PPost.bad (by rw [HE.out, hN]) (HO3.out.trans o1 (fun _ _ h => h))⟩
      | ok nk =>
        obtain ⟨m, k2⟩ := nk
        rintro e w3 ⟨o1, rfl, r1⟩
        obtain ⟨hk3, hk4, hn4⟩ := numL_ok hkl hN
        rw [hN] at HE
        simp only at HE
        have HO4 := Lib.hid (HO3.out.trans o1 (fun _ _ h => h))
        have HR4 := Lib.hid r1
        clear HO3 r1 o1 hN
        go_wp2_with fail
        refine (PK.out k2 _ HR4.out).mono ?_
        rintro e w5 ⟨rfl, o5⟩
        have HO5 := Lib.hid (HO4.out.is_nob o5)
        have hr5 := HR4.out.other o5 (fun h => h)
        obtain ⟨c0, c1, cf⟩ := hr5.cells
        have HS5 := Lib.hid (hr5.set (k2 + 1))
        unfold endB at HE
        have hd8 := (peekL s k2).toNat_lt
        clear o5 hr5
        generalize (peekL s k2).toNat = dN at HE hd8
        by_cases hd : dN = 125
        · subst hd
          rw [if_pos rfl] at HE
          by_cases x1 : n > m
          · rw [if_pos (by omega)] at HE
            have x1' : (n : Int) > (m : Int) := by omega
            go_wp2_with fail
            refine (fail_any _ op 3 _).mono ?_
            rintro e w6 ⟨rfl, rfl⟩
            exact ⟨rfl, PPost.bad HE.out (HO5.out.is_set 1 _)⟩
          have x1' : ¬ (n : Int) > (m : Int) := by omega
          by_cases x2 : m < 1
          · rw [if_pos (by omega)] at HE
            have x2' : (m : Int) < 1 := by omega
            go_wp2_with fail
            refine (fail_any _ op 3 _).mono ?_
            rintro e w6 ⟨rfl, rfl⟩
            exact ⟨rfl, PPost.bad HE.out (HO5.out.is_set 1 _)⟩
          have x2' : ¬ (m : Int) < 1 := by omega
          by_cases x3 : m > 200
          · rw [if_pos (by omega)] at HE
            have x3' : (m : Int) > 200 := by omega
            go_wp2_with fail
            refine (fail_any _ op 3 _).mono ?_
            rintro e w6 ⟨rfl, rfl⟩
            exact ⟨rfl, PPost.bad HE.out (HO5.out.is_set 1 _)⟩
          have x3' : ¬ (m : Int) > 200 := by omega
          rw [if_neg (by omega)] at HE
          go_wp2_with fail
          go_ret2
          exact PPost.ok HE.out rfl (HO5.out.is_set 1 _) HS5.out
        · rw [if_neg hd] at HE
          have hd' : ¬ (dN : Int) = 125 := by omega
          go_wp2_with fail
          refine (fail_any _ k2 12 _).mono ?_
          rintro e w6 ⟨rfl, rfl⟩
          exact ⟨rfl, PPost.bad HE.out HO5.out⟩
    · have h1 := H1.out hc
      have HE := Lib.hid h1
      clear H2 H1 h1
      generalize (peekL s k).toNat = cN at hc hc8
      have hc' : ¬ (cN : Int) = 44 := by omega
      go_wp2_with fail
      refine (PK.out k _ HR2.out).mono ?_
      rintro e w5 ⟨rfl, o5⟩
      have HO5 := Lib.hid (HO2.out.is_nob o5)
      have hr5 := HR2.out.other o5 (fun h => h)
      obtain ⟨c0, c1, cf⟩ := hr5.cells
      have HS5 := Lib.hid (hr5.set (k + 1))
      unfold endB at HE
      have hd8 := (peekL s k).toNat_lt
      clear o5 hr5
      generalize (peekL s k).toNat = dN at HE hd8
      by_cases hd : dN = 125
      · subst hd
        rw [if_pos rfl] at HE
        by_cases x2 : n < 1
        · rw [if_pos (by omega)] at HE
          have x2' : (n : Int) < 1 := by omega
          go_wp2_with fail
          refine (fail_any _ op 3 _).mono ?_
          rintro e w6 ⟨rfl, rfl⟩
          exact ⟨rfl, PPost.bad HE.out (HO5.out.is_set 1 _)⟩
        have x2' : ¬ (n : Int) < 1 := by omega
        by_cases x3 : n > 200
        · rw [if_pos (by omega)] at HE
          have x3' : (n : Int) > 200 := by omega
          go_wp2_with fail
          refine (fail_any _ op 3 _).mono ?_
          rintro e w6 ⟨rfl, rfl⟩
          exact ⟨rfl, PPost.bad HE.out (HO5.out.is_set 1 _)⟩
        have x3' : ¬ (n : Int) > 200 := by omega
        rw [if_neg (by omega)] at HE
        go_wp2_with fail
        go_ret2
        exact PPost.ok HE.out rfl (HO5.out.is_set 1 _) HS5.out
      · rw [if_neg hd] at HE
        have hd' : ¬ (dN : Int) = 125 := by omega
        go_wp2_with fail
        refine (fail_any _ k 12 _).mono ?_
        rintro e w6 ⟨rfl, rfl⟩
        exact ⟨rfl, PPost.bad HE.out HO5.out⟩

end Go.Proofs.YtddjbfmohibgbaaDoor
