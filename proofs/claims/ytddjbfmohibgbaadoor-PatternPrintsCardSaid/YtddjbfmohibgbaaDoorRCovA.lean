/- Chapter 05: the reference: Covers. -/
import Derived.Test.YtddjbfmohibgbaaDoorCovA
import Derived.Test.YtddjbfmohibgbaaDoorRWrA

/- Covering: the reference's functions. -/
namespace Go.Proofs.YtddjbfmohibgbaaDoor
open Go.RowKit

set_option maxRecDepth 100000 in
set_option maxHeartbeats 2000000 in
theorem rcovers_any (a b : Pc) (w : World) (hb : runB b = true ∨ plainB b = true) (hbt : b.t.length ≤ 1000) : Calls Tryd.prog 69 #[pcV a, pcV b] w (BoolPost (coversB a b) w) := by
  have hb0 : b.c = 0 ∨ 0 < b.c := by
    rcases hb with h | h
    · exact .inr (runB_iff.1 h).1
    · exact .inl (plainB_iff.1 h).1
  obtain ⟨pA, pB, oW⟩ := pcW_at w a b
  have RA := Lib.hid (fun w => rall_any ⟨b.t.toArray⟩ a.c w (show b.t.length ≤ _ by omega))
  have RC := Lib.hid (fun w => rcontained_any b.c a.c w)
  have hco : coversB a b = if a.c = 0 then decide (b.c = 0) && decide (a.t = b.t) else insideB b a.c && decide (a.l ≤ sizeA b) && decide (sizeZ b ≤ a.m) := rfl
  have hin : insideB b a.c = if b.c = 0 then allB b.t a.c else cin b.c a.c := rfl
  have hsa : sizeA b = if b.c = 0 then (b.t.length : Int) else b.l := rfl
  have hsz : sizeZ b = if b.c = 0 then (b.t.length : Int) else b.m := rfl
  rw [hin, hsa, hsz] at hco
  clear hin hsa hsz hb
  obtain ⟨c, l, m, t⟩ := a
  obtain ⟨c', l', m', t'⟩ := b
  have HO := Lib.hid oW
  unfold pcW at pA pB HO
  unfold pcV SV
  simp only at hco hb0 RA RC hbt pA pB HO ⊢
  rw [hco]
  clear hco oW
  by_cases hc : c = 0
  · rw [if_pos hc]
    subst hc
    clear RA RC pA pB
    by_cases hd : c' = 0
    · subst hd
      by_cases ht : t = t'
      · subst ht
        go_enter Tryd.func69, Tryd.ntmps69
        go_wp2_with fail
        all_goals
          go_ret
          refine ⟨ret_bool ?_, HO.out⟩
          first | rfl | (simp [*]; done) | (simp at *; done)
      · go_enter Tryd.func69, Tryd.ntmps69
        go_wp2_with fail
        all_goals
          go_ret
          refine ⟨ret_bool ?_, HO.out⟩
          first | rfl | (simp [*]; done) | (simp at *; done)
    · have d0 : (c' == 0) = false := by simp; omega
      go_enter Tryd.func69, Tryd.ntmps69
      go_wp2_with fail
      all_goals
        go_ret
        refine ⟨ret_bool ?_, HO.out⟩
        first | rfl | (simp [*]; done)
  · rw [if_neg hc]
    have c0 : (c == 0) = false := by simp; omega
    by_cases hd : c' = 0
    · subst hd
      simp only [if_true]
      clear RC hb0 hc
      generalize allB t' c = ib at *
      cases ib
      case' true =>
        by_cases h1 : l ≤ (t'.length : Int)
        case' pos =>
          by_cases h2 : (t'.length : Int) ≤ m
      all_goals
        go_enter Tryd.func69, Tryd.ntmps69
        go_wp2_with (first | (go_at_call 70; (with_reducible refine (RA.out _).mono ?_); rintro e w2 ⟨rfl, rfl⟩) | fail)
        go_ret
        refine ⟨ret_bool ?_, HO.out⟩
        first | rfl | (simp [*]; done) | (simp at *; simp [*]; done) | (simp at *; omega)
    · have d0 : (c' == 0) = false := by simp; omega
      have hpos : 0 < c' := by omega
      simp only [if_neg hd]
      clear RA hb0 hc hd
      generalize cin c' c = ib at *
      cases ib
      case' true =>
        by_cases h1 : l ≤ l'
        case' pos =>
          by_cases h2 : m' ≤ m
      all_goals
        go_enter Tryd.func69, Tryd.ntmps69
        go_wp2_with (first | (go_at_call 71; (with_reducible refine (RC.out _ hpos).mono ?_); rintro e w2 ⟨rfl, rfl⟩) | fail)
        go_ret
        refine ⟨ret_bool ?_, HO.out⟩
        first | rfl | (simp [*]; done) | (simp at *; simp [*]; done) | (simp at *; omega)

end Go.Proofs.YtddjbfmohibgbaaDoor

/- Covers: the reference's function. -/
namespace Go.Proofs.YtddjbfmohibgbaaDoor
open Go.RowKit

/-- What the first loop knows. -/
def RcRel (w : World) (p q : List Pc) (sv i : Value) (wr : World) : Prop :=
  ∃ (k : Nat) (b : Bool), k ≤ p.length ∧ k ≤ q.length ∧ sv = .bool b ∧ i = .int .i64 (k : Int) ∧ b = (decide (p.length = q.length) && pairB (p.take k) (q.take k)) ∧ Only Nob w wr

set_option maxRecDepth 100000 in
set_option maxHeartbeats 4000000 in
theorem rcoverP_any (v1 v2 : Value) (p q : List Pc) (w : World) (hp : Pcs w v1 p) (hq : Pcs w v2 q) (fp : Fair p) (fq : Fair q) : Calls Tryd.prog 29 #[v1, v2] w (BoolPost (coverB p q) w) := by
  obtain ⟨a1, c1, rfl⟩ := hp.form
  obtain ⟨a2, c2, rfl⟩ := hq.form
  have R1 := Lib.hid (rright_any _ p w hp fp)
  have R2 := Lib.hid (fun w' (o : Only Nob w w') => rright_any _ q w' (hq.nob o) fq)
  cases r1 : rightB p
  · have HE : Hid (coverB p q = false) := by unfold coverB; rw [r1]; rfl
    rw [r1] at R1
    go_enter Tryd.func29, Tryd.ntmps29
    go_wp2_with fail
    refine R1.out.mono ?_
    rintro e w2 ⟨rfl, o2⟩
    go_wp2
    go_ret
    exact ⟨ret_bool HE.out.symm, o2⟩
  rw [r1] at R1
  cases r2 : rightB q
  · have HE : Hid (coverB p q = false) := by unfold coverB; rw [r2, Bool.and_false]; rfl
    rw [r2] at R2
    go_enter Tryd.func29, Tryd.ntmps29
    go_wp2_with fail
    refine R1.out.mono ?_
    rintro e w2 ⟨rfl, o2⟩
    go_wp2_with fail
    refine (R2.out _ o2).mono ?_
    rintro e w3 ⟨rfl, o3⟩
    go_wp2
    go_ret
    exact ⟨ret_bool HE.out.symm, o2.nob o3⟩
  rw [r2] at R2
  have HE : Hid (coverB p q = (pairB p q || oneB p q)) := by unfold coverB; rw [r1, r2]; rfl
  go_enter Tryd.func29, Tryd.ntmps29
  go_wp2_with fail
  refine R1.out.mono ?_
  rintro e w2 ⟨rfl, o2⟩
  go_wp2_with fail
  refine (R2.out _ o2).mono ?_
  rintro e w3 ⟨rfl, o3⟩
  go_wp2_with fail
  have l1 := fp.1
  have l2 := fq.1
  have g1 := okFrom_good fp r1
  have g2 := okFrom_good fq r2
  have HO3 := Lib.hid (o2.nob o3)
  go_loopw [5, 6] (fun sv i wr => RcRel w p q sv i wr) (fun _ i _ => p.length - (intOf i).toNat)
  case atStart => exact ⟨0, decide (p.length = q.length), Nat.zero_le _, Nat.zero_le _, congrArg Value.bool (by rw [Bool.eq_iff_iff]; simp; omega), rfl, by simp [pairB], HO3.out⟩
  case round =>
    obtain ⟨k, b, hk, hk2, rfl, rfl, hb, hon⟩ := hrel
    by_cases hgo : k < p.length ∧ b = true
    · obtain ⟨hlt, rfl⟩ := hgo
      have hb' := hb.symm
      rw [Bool.and_eq_true, decide_eq_true_eq] at hb'
      obtain ⟨hlen, hok⟩ := hb'
      have hlq : k < q.length := by omega
      obtain ⟨b1, o1, rfl, hb1, e0, e1, e2, e3⟩ := (hp.nob hon).at hlt
      obtain ⟨b2, o2', rfl, hb2, f0, f1, f2, f3⟩ := (hq.nob hon).at hlq
      have hst := Lib.hid (pairB_take p q k hlt hlq)
      have C := Lib.hid (fun w => rcovers_any p[k] q[k] w (good_mem g2 hlq).1 (good_mem g2 hlq).2)
      have kk : (k : Int) < (p.length : Int) := by omega
      have HO := Lib.hid hon
      have HK := Lib.hid hok
      have HLen := Lib.hid hlen
      generalize p[k] = x at hst C e0 e1 e2 e3
      generalize q[k] = y at hst C f0 f1 f2 f3
      obtain ⟨c, l, m, t⟩ := x
      obtain ⟨c', l', m', t'⟩ := y
      unfold pcV SV at C
      simp only at e0 e1 e2 e3 f0 f1 f2 f3 C
      clear hok hon hb1 hb2 hb hlen
      have HF := Lib.hid (show pairB (p.take (k + 1)) (q.take (k + 1)) = coversB ⟨c, l, m, t⟩ ⟨c', l', m', t'⟩ by rw [hst.out, HK.out]; rfl)
      generalize coversB ⟨c, l, m, t⟩ ⟨c', l', m', t'⟩ = cv at HF C
      go_wp2_with fail
      go_region_held3 (fun w' => (w'.cell? ⟨b1, o1 + k * 4, none⟩ = some (.int .i64 c) ∧ w'.cell? ⟨b1, o1 + k * 4 + 1, none⟩ = some (.int .i64 l) ∧ w'.cell? ⟨b1, o1 + k * 4 + 2, none⟩ = some (.int .i64 m) ∧ w'.cell? ⟨b1, o1 + k * 4 + 3, none⟩ = some (.string ⟨t.toArray⟩)) ∧ (w'.cell? ⟨b2, o2' + k * 4, none⟩ = some (.int .i64 c') ∧ w'.cell? ⟨b2, o2' + k * 4 + 1, none⟩ = some (.int .i64 l') ∧ w'.cell? ⟨b2, o2' + k * 4 + 2, none⟩ = some (.int .i64 m') ∧ w'.cell? ⟨b2, o2' + k * 4 + 3, none⟩ = some (.string ⟨t'.toArray⟩)))
        (first | exact u1 | exact ⟨⟨e0, e1, e2, e3⟩, ⟨f0, f1, f2, f3⟩⟩ | fail)
        (first
          | (go_at_call 69; (with_reducible refine (C.out _).mono ?_); rintro e w5 ⟨rfl, oc⟩; have u1 := And.intro (PcAt.other (S := Nob) (x := ⟨c, l, m, t⟩) ⟨e0, e1, e2, e3⟩ (Only.nob (Only.drew Nob _) oc) (fun h => h)) (PcAt.other (S := Nob) (x := ⟨c', l', m', t'⟩) ⟨f0, f1, f2, f3⟩ (Only.nob (Only.drew Nob _) oc) (fun h => h)))
          | fail)
      clear u1
      go_wp2_with fail
      go_roundw
      case rel => exact ⟨k + 1, cv, by omega, by omega, rfl, by go_num, by rw [HF.out, decide_eq_true HLen.out]; rfl, (HO.out.nob (Only.drew Nob _)).nob oc⟩
      case measure => simp [intOf]; omega
    · cases b with
      | true =>
        obtain rfl : k = p.length := by
          have : ¬ k < p.length := fun h => hgo ⟨h, rfl⟩
          omega
        have hb' := hb.symm
        rw [Bool.and_eq_true, decide_eq_true_eq] at hb'
        obtain ⟨hlen, hok⟩ := hb'
        rw [List.take_of_length_le (Nat.le_refl _), List.take_of_length_le (by omega)] at hok
        have HE2 : Hid (coverB p q = true) := by rw [HE.out, hok]; rfl
        have HO := Lib.hid hon
        clear hb hok hlen hgo hon
        go_wp2
        go_ret
        exact ⟨ret_bool HE2.out.symm, HO.out⟩
      | false =>
        have hpr : pairB p q = false := by
          rcases Bool.and_eq_false_iff.1 hb.symm with h | h
          · exact pairB_len (of_decide_eq_false h)
          · exact pairB_not h
        rw [hpr, Bool.false_or] at HE
        clear hb hgo hpr
        have HO := Lib.hid hon
        have HON := Lib.hid hon
        clear hon
        by_cases hl : p.length = 1
        case' neg =>
          have HE2 := Lib.hid (oneB_len (q := q) hl)
          have b1 : ((p.length : Int) == 1) = false := by simp; omega
          have b2 : ((p.length : Int) != 1) = true := by simp; omega
          clear hl
          by_cases hkl : k < p.length
          all_goals
            go_wp2
            go_ret
            exact ⟨ret_bool (HE.out.trans HE2.out).symm, HO.out⟩
        clear r1 r2 R1 R2 g1 l1
        obtain ⟨a, rfl⟩ := one_of_len hl
        have HPA := Lib.hid (show ∀ w', Only Nob w w' → ∃ b off, a1 = some ⟨b, off, none⟩ ∧ PcAt w' b off a from fun w' o => by
          obtain ⟨b', off', hv, _, h⟩ := (hp.nob o).at (k := 0) (by simp)
          exact ⟨b', off', hv, by simpa using h⟩)
        obtain ⟨bb, off, rfl, _⟩ := HPA.out w (Only.refl _ _)
        have HPA := Lib.hid (show ∀ w', Only Nob w w' → PcAt w' bb off a from fun w' o => by
          obtain ⟨b', off', hv, h⟩ := HPA.out w' o
          simp only [Option.some.injEq, Addr.mk.injEq] at hv
          obtain ⟨rfl, rfl, _⟩ := hv
          exact h)
        obtain ⟨c, l, m, t⟩ := a
        obtain ⟨x0, x1, x2, x3⟩ := HPA.out _ HON.out
        simp only [List.length_cons, List.length_nil, Nat.zero_add] at *
        by_cases hc : c = 0
        case' pos =>
          subst hc
          have HE2 := Lib.hid (oneB_zero (l := l) (m := m) (t := t) (q := q))
          by_cases hkl : k < 1
          all_goals
            go_wp2
            go_ret
            exact ⟨ret_bool (HE.out.trans HE2.out).symm, HO.out⟩
        have c0 : (c == 0) = false := by simp; omega
        have HC := Lib.hid hc
        clear hc
        have hql := g2.1
        have HB := Lib.hid (show CvRel w ⟨c, l, m, t⟩ q (.int .i64 0) (.int .i64 0) (.int .i64 (0 : Nat)) wr from ⟨0, Nat.zero_le _, rfl, by simp [sumA], by simp [sumZ], rfl, HON.out⟩)
        have RA := Lib.hid rall_any
        have RC := Lib.hid rcontained_any
        by_cases hkl : k < 1
        all_goals
          go_wp2_with fail
          go_loopw [7, 8, 9] (fun av zv i wr => CvRel w ⟨c, l, m, t⟩ q av zv i wr) (fun _ _ i _ => q.length - (intOf i).toNat)
          case atStart => exact HB.out
          case round =>
            obtain ⟨k2, hk2, rfl, rfl, rfl, hok, hon2⟩ := hrel
            clear HB x0 x1 x2 x3
            obtain ⟨x0, x1, x2, x3⟩ := HPA.out _ hon2
            have hsum := sum_ok (q.take k2) (fun x hx => g2.2 x (List.mem_of_mem_take hx))
            have htl : (q.take k2).length ≤ 60 := by rw [List.length_take]; omega
            by_cases hlt : k2 < q.length
            · obtain ⟨b2, o2', rfl, -, f0, f1, f2, f3⟩ := (hq.nob hon2).at hlt
              have hgm := good_mem g2 hlt
              have hsz := size_ok hgm.1 hgm.2
              have HAll := Lib.hid (all_take_succ q (fun x => insideB x c) k2 hlt)
              have HNot := Lib.hid (fun h => all_not (f := fun x => insideB x c) hlt h)
              have HA := Lib.hid (show sumA (q.take (k2 + 1)) = sumA (q.take k2) + sizeA q[k2] by rw [List.take_succ_eq_append_getElem hlt, sumA_snoc])
              have HZ := Lib.hid (show sumZ (q.take (k2 + 1)) = sumZ (q.take k2) + sizeZ q[k2] by rw [List.take_succ_eq_append_getElem hlt, sumZ_snoc])
              have hy0 : q[k2].c = 0 ∨ 0 < q[k2].c := by
                rcases hgm.1 with h | h
                · exact .inr (runB_iff.1 h).1
                · exact .inl (plainB_iff.1 h).1
              have hyt := hgm.2
              have kk : (k2 : Int) < (q.length : Int) := by omega
              have HO2 := Lib.hid hon2
              have HK := Lib.hid hok
              clear hok hon2 hgm
              generalize q[k2] = y at hsz HAll HNot HA HZ hy0 hyt f0 f1 f2 f3
              generalize sumA (q.take k2) = sa at hsum HA ⊢
              generalize sumZ (q.take k2) = sz at hsum HZ ⊢
              obtain ⟨c', l', m', t'⟩ := y
              simp only at f0 f1 f2 f3 hy0 hyt
              have hin : insideB ⟨c', l', m', t'⟩ c = if c' = 0 then allB t' c else cin c' c := rfl
              have hsa : sizeA ⟨c', l', m', t'⟩ = if c' = 0 then (t'.length : Int) else l' := rfl
              have hsz' : sizeZ ⟨c', l', m', t'⟩ = if c' = 0 then (t'.length : Int) else m' := rfl
              rw [hin] at HAll HNot
              rw [hsa] at HA hsz
              rw [hsz'] at HZ hsz
              clear hin hsa hsz'
              by_cases hd : c' = 0
              · subst hd
                simp only [if_true] at HAll HNot HA HZ hsz
                have RA1 := Lib.hid (show ∀ w, Calls Tryd.prog 70 #[.string ⟨t'.toArray⟩, .int .i64 c] w fun e w' => e = .returned (.bool (allB t' c)) ∧ w = w' from fun w => RA.out ⟨t'.toArray⟩ c w (show t'.length ≤ _ by omega))
                cases hal : allB t' c
                case' false =>
                  have HE2 := Lib.hid (oneB_bad (l := l) (m := m) (t := t) (HNot.out hal))
                  rw [hal] at RA1
                  clear hal HNot HAll hsz hsum
                  go_wp2_with fail
                  go_region_held3 (fun w' => w'.cell? ⟨b2, o2' + k2 * 4 + 3, none⟩ = some (.string ⟨t'.toArray⟩) ∧ w'.cell? ⟨bb, off, none⟩ = some (.int .i64 c)) (first | exact ⟨f3, x0⟩ | fail)
                    (first | (go_at_call 70; (with_reducible refine (RA1.out _).mono ?_); rintro e w5 ⟨rfl, rfl⟩) | fail)
                  go_wp2
                  go_ret
                  exact ⟨ret_bool (HE.out.trans HE2.out).symm, HO2.out.nob (Only.drew _ _)⟩
                have HT : Hid ((q.take (k2 + 1)).all (fun x => insideB x c) = true) := by rw [HAll.out, HK.out, hal]; rfl
                rw [hal] at RA1
                clear hal HNot HAll
                go_wp2_with fail
                go_region_held3 (fun w' => w'.cell? ⟨b2, o2' + k2 * 4 + 3, none⟩ = some (.string ⟨t'.toArray⟩) ∧ w'.cell? ⟨bb, off, none⟩ = some (.int .i64 c)) (first | exact ⟨f3, x0⟩ | fail)
                  (first | (go_at_call 70; (with_reducible refine (RA1.out _).mono ?_); rintro e w5 ⟨rfl, rfl⟩) | fail)
                go_wp2_with fail
                go_roundw
                case rel => exact ⟨k2 + 1, by omega, by go_num, by rw [HA.out], by rw [HZ.out], HT.out, HO2.out.nob (Only.drew _ _)⟩
                case measure => simp [intOf]; omega
              · have hpos : 0 < c' := by omega
                have d0 : (c' == 0) = false := by simp; omega
                simp only [if_neg hd] at HAll HNot HA HZ hsz
                have RC1 := Lib.hid (fun w => RC.out c' c w hpos)
                clear hd hy0
                cases hal : cin c' c
                case' false =>
                  have HE2 := Lib.hid (oneB_bad (l := l) (m := m) (t := t) (HNot.out hal))
                case' true =>
                  have HT : Hid ((q.take (k2 + 1)).all (fun x => insideB x c) = true) := by rw [HAll.out, HK.out, hal]; rfl
                all_goals
                  rw [hal] at RC1
                  clear hal HNot HAll
                  go_wp2_with fail
                  go_region_held3 (fun w' => w'.cell? ⟨b2, o2' + k2 * 4, none⟩ = some (.int .i64 c') ∧ w'.cell? ⟨bb, off, none⟩ = some (.int .i64 c)) (first | exact ⟨f0, x0⟩ | fail)
                    (first | (go_at_call 71; (with_reducible refine (RC1.out _).mono ?_); rintro e w5 ⟨rfl, rfl⟩) | fail)
                  go_wp2_with fail
                  first
                    | (go_ret
                       exact ⟨ret_bool (HE.out.trans HE2.out).symm, HO2.out.nob (Only.drew _ _)⟩)
                    | (go_roundw
                       case rel => exact ⟨k2 + 1, by omega, by go_num, by rw [HA.out], by rw [HZ.out], HT.out, HO2.out.nob (Only.drew _ _)⟩
                       case measure => simp [intOf]; omega)
            · obtain rfl : k2 = q.length := by omega
              rw [List.take_of_length_le (Nat.le_refl _)] at hok hsum ⊢
              have HE2 := Lib.hid (oneB_end (l := l) (m := m) (t := t) HC.out hok)
              have HO2 := Lib.hid hon2
              clear hok hon2
              generalize sumA q = sa at hsum HE2 ⊢
              generalize sumZ q = sz at hsum HE2 ⊢
              by_cases h1 : l ≤ sa
              case' pos =>
                by_cases h2 : min sz 200 ≤ m
              all_goals
                go_wp2
                go_ret
                refine ⟨ret_bool ?_, HO2.out⟩
                rw [HE.out, HE2.out]
                first | (simp [*]; done) | (simp at *; omega)

end Go.Proofs.YtddjbfmohibgbaaDoor
