/- Whether pieces are a right pattern: the program's function; Print. -/
import Derived.Test.YtddjbfmohibgbaaDoorWr
namespace Go.Proofs.YtddjbfmohibgbaaDoor
open Go.RowKit

/-- Where the test of a run fails. -/
theorem runB_no {x : Pc} (h : runB x = false) : x.c ≤ 0 ∨ (0 < x.c ∧ (7 < x.c ∨ (x.c ≤ 7 ∧ (x.l < 0 ∨ (0 ≤ x.l ∧ (x.m < x.l ∨ (x.l ≤ x.m ∧ (x.m ≤ 0 ∨ (0 < x.m ∧ (200 < x.m ∨ (x.m ≤ 200 ∧ x.t ≠ []))))))))))) := by
  by_cases h1 : 0 < x.c
  · by_cases h2 : x.c ≤ 7
    · by_cases h3 : 0 ≤ x.l
      · by_cases h4 : x.l ≤ x.m
        · by_cases h5 : 0 < x.m
          · by_cases h6 : x.m ≤ 200
            · exact .inr ⟨h1, .inr ⟨h2, .inr ⟨h3, .inr ⟨h4, .inr ⟨h5, .inr ⟨h6, fun h7 => by rw [runB_iff.2 ⟨h1, h2, h3, h4, h5, h6, h7⟩] at h; cases h⟩⟩⟩⟩⟩⟩
            · exact .inr ⟨h1, .inr ⟨h2, .inr ⟨h3, .inr ⟨h4, .inr ⟨h5, .inl (by omega)⟩⟩⟩⟩⟩
          · exact .inr ⟨h1, .inr ⟨h2, .inr ⟨h3, .inr ⟨h4, .inl (by omega)⟩⟩⟩⟩
        · exact .inr ⟨h1, .inr ⟨h2, .inr ⟨h3, .inl (by omega)⟩⟩⟩
      · exact .inr ⟨h1, .inr ⟨h2, .inl (by omega)⟩⟩
    · exact .inr ⟨h1, .inl (by omega)⟩
  · exact .inl (by omega)

/-- Where the test of a literal fails, at a piece without a class. -/
theorem plainB_no {x : Pc} (h : plainB x = false) : x.c ≠ 0 ∨ (x.c = 0 ∧ (x.l ≠ 0 ∨ (x.l = 0 ∧ (x.m ≠ 0 ∨ (x.m = 0 ∧ (x.t = [] ∨ (x.t ≠ [] ∧ allB x.t 7 = false)))))) ) := by
  by_cases h1 : x.c = 0
  · by_cases h2 : x.l = 0
    · by_cases h3 : x.m = 0
      · by_cases h4 : x.t = []
        · exact .inr ⟨h1, .inr ⟨h2, .inr ⟨h3, .inl h4⟩⟩⟩
        · cases h5 : allB x.t 7
          · exact .inr ⟨h1, .inr ⟨h2, .inr ⟨h3, .inr ⟨h4, rfl⟩⟩⟩⟩
          · rw [plainB_iff.2 ⟨h1, h2, h3, h4, h5⟩] at h; cases h
      · exact .inr ⟨h1, .inr ⟨h2, .inl h3⟩⟩
    · exact .inr ⟨h1, .inl h2⟩
  · exact .inl h1

theorem not_empty {t : List UInt8} (h : t ≠ []) : (⟨t.toArray⟩ : ByteArray).data.toList ≠ [] := h

def RightRel (w : World) (p : List Pc) (lv iv : Value) (wr : World) : Prop :=
  ∃ k : Nat, k ≤ p.length ∧ iv = .int .i64 k ∧ lv = .bool (litAt false (p.take k)) ∧ okFrom false (p.take k) = true ∧ Only Nob w wr

theorem okFrom_not {p : List Pc} {k : Nat} (h : okFrom false (p.take k) = false) : rightB p = false := by
  have : okFrom false p = false := by
    cases he : okFrom false p
    · rfl
    · rw [← List.take_append_drop k p] at he
      rw [okFrom_prefix he] at h; cases h
  unfold rightB
  rw [this]; rfl

set_option maxRecDepth 100000 in
set_option maxHeartbeats 4000000 in
theorem right_any (v : Value) (p : List Pc) (w : World) (hp : Pcs w v p) (hg : Fair p) (ht : Tab w) : Calls Tryd.prog 57 #[v] w (BoolPost (rightB p) w) := by
  obtain ⟨ao, cap, rfl⟩ := hp.form
  have hlen := hg.1
  have HB : RightRel w p (.bool false) (.int .i64 (0 : Nat)) w := ⟨0, Nat.zero_le _, rfl, rfl, rfl, Only.refl _ _⟩
  go_enter Tryd.func57, Tryd.ntmps57
  go_wp2_with fail
  go_loopw [3, 10] (fun lv i wr => RightRel w p lv i wr) (fun _ i _ => p.length - (intOf i).toNat)
  case atStart => exact HB
  case round =>
    obtain ⟨k, hk, rfl, rfl, hok, hon⟩ := hrel
    clear HB
    by_cases hlt : k < p.length
    · obtain ⟨hx1, hx2, hx3, hx4⟩ := hg.2 _ (List.getElem_mem hlt)
      obtain ⟨b, off, rfl, hb, e0, e1, e2, e3⟩ := (hp.nob hon).at hlt
      have hs := Lib.hid (show okFrom false (p.take (k + 1)) = ((runB p[k] || plainB p[k]) && !(plainB p[k] && litAt false (p.take k))) by rw [List.take_succ_eq_append_getElem hlt, okFrom_snoc, hok]; simp)
      have hs2 := Lib.hid (show litAt false (p.take (k + 1)) = plainB p[k] by rw [List.take_succ_eq_append_getElem hlt, litAt_snoc])
      generalize p[k] = x at hx1 hx2 hx3 hx4 hs hs2 e0 e1 e2 e3
      generalize litAt false (p.take k) = lb at hs ⊢
      obtain ⟨c, l, m, t⟩ := x
      simp only at e0 e1 e2 e3 hx1 hx2 hx3 hx4
      have kk : (k : Int) < (p.length : Int) := by omega
      have HO := Lib.hid hon
      clear hok hon
      cases hr : runB ⟨c, l, m, t⟩
      · rcases runB_no hr with h1 | ⟨h1, h2⟩
        · simp only at h1
          cases hq : plainB ⟨c, l, m, t⟩
          · have HF : Hid (okFrom false (p.take (k + 1)) = false) := by rw [hs.out, hr, hq]; rfl
            have hn := plainB_no hq
            simp only at hn
            clear hs hs2 hr hq
            rcases hn with h2 | ⟨rfl, h2 | ⟨rfl, h2 | ⟨rfl, rfl | ⟨h2, h3⟩⟩⟩⟩
            case' inl => have b1 : (c == 0) = false := by simp; omega
            case' inr.inl => have b1 : (l == 0) = false := by simp; omega
            case' inr.inr.inl => have b1 : (m == 0) = false := by simp; omega
            case' inr.inr.inr.inr =>
              have A := Lib.hid (fun w => all_any ⟨t.toArray⟩ 7 w (show t.length ≤ _ by omega))
              have e : allB (⟨t.toArray⟩ : ByteArray).data.toList 7 = false := h3
              rw [e] at A
              have b1 : t.isEmpty = false := by simpa using h2
              clear e h3
            all_goals
              go_wp2_with (go_at_call 99; refine (A.out _).mono ?_; rintro e w2 ⟨rfl, o2⟩)
              go_ret
              first
                | exact ⟨ret_bool (okFrom_not HF.out).symm, (HO.out.nob (Only.alloc _ _ _)).nob o2⟩
                | exact ⟨ret_bool (okFrom_not HF.out).symm, HO.out.nob (Only.alloc _ _ _)⟩
          · obtain ⟨q1, q2, q3, q4, q5⟩ := plainB_iff.1 hq
            simp only at q1 q2 q3 q4 q5
            subst q1 q2 q3
            have A := Lib.hid (fun w => all_any ⟨t.toArray⟩ 7 w (show t.length ≤ _ by omega))
            have e : allB (⟨t.toArray⟩ : ByteArray).data.toList 7 = true := q5
            rw [e] at A
            have b1 : t.isEmpty = false := by simpa using q4
            rw [hr, hq] at hs
            rw [hq] at hs2
            clear e q5 q4 hr hq h1
            cases lb
            · go_wp2_with (go_at_call 99; refine (A.out _).mono ?_; rintro e w2 ⟨rfl, o2⟩)
              go_roundw
              case rel => exact ⟨k + 1, by omega, by go_num, by rw [hs2.out], by rw [hs.out]; rfl, (HO.out.nob (Only.alloc _ _ _)).nob o2⟩
              case measure => simp [intOf]; omega
            · have HF : Hid (okFrom false (p.take (k + 1)) = false) := by rw [hs.out]; rfl
              go_wp2_with (go_at_call 99; refine (A.out _).mono ?_; rintro e w2 ⟨rfl, o2⟩)
              go_ret
              exact ⟨ret_bool (okFrom_not HF.out).symm, (HO.out.nob (Only.alloc _ _ _)).nob o2⟩
        · simp only at h1 h2
          have hq : plainB ⟨c, l, m, t⟩ = false := by
            cases h : plainB ⟨c, l, m, t⟩
            · rfl
            · have := (plainB_iff.1 h).1; simp only at this; omega
          have HF : Hid (okFrom false (p.take (k + 1)) = false) := by rw [hs.out, hr, hq]; rfl
          have c0 : (c == 0) = false := by simp; omega
          clear hs hs2 hr hq
          rcases h2 with h2 | ⟨h2, h3 | ⟨h3, h4 | ⟨h4, h5 | ⟨h5, h6 | ⟨h6, h7⟩⟩⟩⟩⟩
          case' inr.inr.inr.inr.inr => have b1 : t.isEmpty = false := by simpa using h7
          all_goals
            go_wp2_with fail
            go_ret
            exact ⟨ret_bool (okFrom_not HF.out).symm, HO.out.nob (Only.alloc _ _ _)⟩
      · obtain ⟨q1, q2, q3, q4, q5, q6, q7⟩ := runB_iff.1 hr
        simp only at q1 q2 q3 q4 q5 q6 q7
        subst q7
        have hpl : plainB ⟨c, l, m, []⟩ = false := by
          cases h : plainB ⟨c, l, m, []⟩
          · rfl
          · have := (plainB_iff.1 h).1; simp only at this; omega
        rw [hr, hpl] at hs
        rw [hpl] at hs2
        have c0 : (c == 0) = false := by simp; omega
        clear hr hpl
        go_wp2_with fail
        go_roundw
        case rel => exact ⟨k + 1, by omega, by go_num, by rw [hs2.out], by rw [hs.out]; rfl, HO.out.nob (Only.alloc _ _ _)⟩
        case measure => simp [intOf]; omega
    · obtain rfl : k = p.length := by omega
      rw [List.take_of_length_le (Nat.le_refl _)] at hok
      have HR : Hid (Good p ∨ 60 < p.length) := by
        rcases Nat.lt_or_ge 60 p.length with h | h
        · exact .inr h
        · exact .inl ⟨h, fun x hx => ⟨okFrom_mem hok hx, (hg.2 x hx).2.2.2⟩⟩
      rcases HR.out with hgood | hbig
      · have hl60 := hgood.1
        have W := Lib.hid (written_any _ p wr (hp.nob hon) hgood (ht.other hon))
        have HE : Hid (rightB p = decide ((writtenS p).length ≤ 60)) := by
          unfold rightB
          rw [hok, decide_eq_true hl60]; rfl
        clear HR hok hgood
        go_wp2_with fail
        refine W.out.mono ?_
        rintro e w2 ⟨rfl, o2⟩
        by_cases hw : (writtenS p).length ≤ 60
        case' pos => have HE2 : Hid (rightB p = true) := by rw [HE.out, decide_eq_true hw]; rfl
        case' neg => have HE2 : Hid (rightB p = false) := by rw [HE.out, decide_eq_false hw]; rfl
        all_goals
          go_wp2
          go_ret
          refine ⟨ret_bool ?_, hon.nob o2⟩
          rw [HE2.out]
          first | rfl | (simp; omega)
      · have HE : Hid (rightB p = false) := by
          unfold rightB
          rw [decide_eq_false (Nat.not_le.2 hbig)]; simp [Hid]
        clear HR hok
        go_wp2_with fail
        go_ret
        exact ⟨ret_bool HE.out.symm, hon⟩

theorem okFrom_good {p : List Pc} (hg : Fair p) (h : rightB p = true) : Good p := by
  unfold rightB at h
  simp only [Bool.and_eq_true, decide_eq_true_eq] at h
  exact ⟨h.1.2, fun x hx => ⟨okFrom_mem h.1.1 hx, (hg.2 x hx).2.2.2⟩⟩

theorem print_any (v : Value) (p : List Pc) (w : World) (hp : Pcs w v p) (hg : Fair p) (ht : Tab w) : Calls Tryd.prog 18 #[v] w (StrPost (printS p) w) := by
  have R := Lib.hid (right_any v p w hp hg ht)
  cases hr : rightB p
  · rw [hr] at R
    have e : printS p = [] := by unfold printS; rw [hr]; rfl
    rw [e]
    clear e hr
    go_enter Tryd.func18, Tryd.ntmps18
    go_wp2_with (go_at_call 57; refine R.out.mono ?_; rintro e w2 ⟨rfl, o2⟩)
    go_ret
    exact ⟨rfl, o2⟩
  · rw [hr] at R
    have e : printS p = writtenS p := by unfold printS; rw [hr]; rfl
    have W := Lib.hid (fun w2 (o2 : Only Nob w w2) => written_any v p w2 (hp.nob o2) (okFrom_good hg hr) (ht.other o2))
    rw [e]
    clear e hr
    go_enter Tryd.func18, Tryd.ntmps18
    go_wp2_with fail
    refine R.out.mono ?_
    rintro e w2 ⟨rfl, o2⟩
    go_wp2_with fail
    refine (W.out _ o2).mono ?_
    rintro e w3 ⟨rfl, o3⟩
    go_wp2
    go_ret
    exact ⟨rfl, o2.nob o3⟩

end Go.Proofs.YtddjbfmohibgbaaDoor
