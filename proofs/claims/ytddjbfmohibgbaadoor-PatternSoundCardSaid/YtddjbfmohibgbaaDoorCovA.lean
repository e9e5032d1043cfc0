/- Chapter 05: Covers. -/
import Derived.Test.YtddjbfmohibgbaaDoorWrA
import Derived.Test.YtddjbfmohibgbaaDoorPlainA
import Derived.Deep.QuietTactic
import Derived.BigQuiet
import Derived.WalkLawsBesides
import Derived.Deep.RegionHeld3

/- Covering: the program's functions. -/
namespace Go.Proofs.YtddjbfmohibgbaaDoor
open Go.RowKit

/-- Two numbers, in new memory or none. -/
def TwoPost (a b : Int) (w : World) (e : Ending) (w' : World) : Prop := e = .returned (.tuple #[.int .i64 a, .int .i64 b]) ∧ Only Nob w w'

theorem size_any (x : Pc) (w : World) : Calls Tryd.prog 68 #[pcV x] w (TwoPost (sizeA x) (sizeZ x) w) := by
  obtain ⟨c, l, m, t⟩ := x
  unfold pcV SV
  have oB : Only Nob w (w.alloc (.cells #[.int .i64 c, .int .i64 l, .int .i64 m, .string ⟨t.toArray⟩] 31)) := Only.alloc _ _ _
  have HB := Lib.hid oB
  clear oB
  by_cases hc : c = 0
  · subst hc
    have e1 : sizeA ⟨0, l, m, t⟩ = t.length := by unfold sizeA; rw [if_pos rfl]
    have e2 : sizeZ ⟨0, l, m, t⟩ = t.length := by unfold sizeZ; rw [if_pos rfl]
    rw [e1, e2]
    clear e1 e2
    go_enter Tryd.func68, Tryd.ntmps68
    go_wp2_with fail
    go_quiet (fail)
    go_wp2
    go_ret2
    exact ⟨rfl, HB.out.nob (Only.drewN Nob _ _)⟩
  · have e1 : sizeA ⟨c, l, m, t⟩ = l := by unfold sizeA; rw [if_neg hc]
    have e2 : sizeZ ⟨c, l, m, t⟩ = m := by unfold sizeZ; rw [if_neg hc]
    rw [e1, e2]
    have c0 : (c == 0) = false := by simp; omega
    clear e1 e2 hc
    go_enter Tryd.func68, Tryd.ntmps68
    go_wp2_with fail
    go_quiet (fail)
    go_wp2
    go_ret2
    exact ⟨rfl, HB.out.nob (Only.drewN Nob _ _)⟩

theorem inside_any (x : Pc) (k : Int) (w : World) (hx : x.t.length ≤ 1000) : Calls Tryd.prog 67 #[pcV x, .int .i64 k] w (BoolPost (insideB x k) w) := by
  obtain ⟨c, l, m, t⟩ := x
  simp only at hx
  unfold pcV SV
  have oB : Only Nob w (w.alloc (.cells #[.int .i64 c, .int .i64 l, .int .i64 m, .string ⟨t.toArray⟩] 31)) := Only.alloc _ _ _
  have HB := Lib.hid oB
  clear oB
  by_cases hc : c = 0
  · subst hc
    have e1 : insideB ⟨0, l, m, t⟩ k = allB t k := by unfold insideB; rw [if_pos rfl]
    rw [e1]
    have A := Lib.hid (show ∀ w, Calls Tryd.prog 99 #[.string ⟨t.toArray⟩, .int .i64 k] w (BoolPost (allB t k) w) from fun w => all_any ⟨t.toArray⟩ k w (show t.length ≤ _ by omega))
    clear e1
    go_enter Tryd.func67, Tryd.ntmps67
    go_wp2_with fail
    refine (A.out _).mono ?_
    rintro e w2 ⟨rfl, o2⟩
    go_wp2
    go_ret
    exact ⟨rfl, HB.out.nob o2⟩
  · have e1 : insideB ⟨c, l, m, t⟩ k = cin c k := by unfold insideB; rw [if_neg hc]
    rw [e1]
    have c0 : (c == 0) = false := by simp; omega
    clear e1 hc
    go_enter Tryd.func67, Tryd.ntmps67
    go_wp2_with (go_at_call 113; refine (contained_any _ _ _).mono ?_; rintro e w' ⟨rfl, rfl⟩)
    go_ret
    exact ⟨rfl, HB.out⟩

def pcW (w : World) (a b : Pc) : World := (w.alloc (.cells #[.int .i64 a.c, .int .i64 a.l, .int .i64 a.m, .string ⟨a.t.toArray⟩] 31)).alloc (.cells #[.int .i64 b.c, .int .i64 b.l, .int .i64 b.m, .string ⟨b.t.toArray⟩] 31)
theorem pcW_at (w : World) (a b : Pc) : PcAt (pcW w a b) w.heap.size 0 a ∧ PcAt (pcW w a b) (w.heap.size + 1) 0 b ∧ Only Nob w (pcW w a b) := by
  unfold pcW
  have h : PcAt (w.alloc (.cells #[.int .i64 a.c, .int .i64 a.l, .int .i64 a.m, .string ⟨a.t.toArray⟩] 31)) w.heap.size 0 a := by unfold PcAt; simp
  refine ⟨h.other (Only.alloc Nob _ _) (fun h => h), ?_, (Only.alloc Nob _ _).nob (Only.alloc Nob _ _)⟩
  generalize hA : w.alloc (.cells #[.int .i64 a.c, .int .i64 a.l, .int .i64 a.m, .string ⟨a.t.toArray⟩] 31) = wA
  have hz : wA.heap.size = w.heap.size + 1 := by rw [← hA]; simp
  rw [← hz]
  unfold PcAt; simp

set_option maxRecDepth 100000 in
set_option maxHeartbeats 2000000 in
theorem covers_any (a b : Pc) (w : World) (ha : runB a = true ∨ plainB a = true) (hb : runB b = true ∨ plainB b = true) (hbt : b.t.length ≤ 1000) : Calls Tryd.prog 112 #[pcV a, pcV b] w (BoolPost (coversB a b) w) := by
  have hsp := same_plain ha hb
  obtain ⟨pA, pB, oW⟩ := pcW_at w a b
  have SZ := Lib.hid (size_any b)
  have IN := Lib.hid (fun w => inside_any b a.c w hbt)
  have hco : coversB a b = if a.c = 0 then decide (b.c = 0) && decide (a.t = b.t) else insideB b a.c && decide (a.l ≤ sizeA b) && decide (sizeZ b ≤ a.m) := rfl
  obtain ⟨c, l, m, t⟩ := a
  obtain ⟨c', l', m', t'⟩ := b
  have HW := Lib.hid (show ∀ w', Only Nob (pcW w ⟨c, l, m, t⟩ ⟨c', l', m', t'⟩) w' → (w'.cell? ⟨w.heap.size, 0, none⟩ = some (.int .i64 c) ∧ w'.cell? ⟨w.heap.size, 1, none⟩ = some (.int .i64 l) ∧ w'.cell? ⟨w.heap.size, 2, none⟩ = some (.int .i64 m) ∧ w'.cell? ⟨w.heap.size, 3, none⟩ = some (.string ⟨t.toArray⟩)) ∧ (w'.cell? ⟨w.heap.size + 1, 0, none⟩ = some (.int .i64 c') ∧ w'.cell? ⟨w.heap.size + 1, 1, none⟩ = some (.int .i64 l') ∧ w'.cell? ⟨w.heap.size + 1, 2, none⟩ = some (.int .i64 m') ∧ w'.cell? ⟨w.heap.size + 1, 3, none⟩ = some (.string ⟨t'.toArray⟩)) ∧ Only Nob w w' from fun w' o => ⟨pA.other o (fun h => h), pB.other o (fun h => h), oW.nob o⟩)
  unfold pcV SV at SZ IN ⊢
  unfold pcW at HW
  simp only at hco hsp SZ IN HW ⊢
  rw [hco]
  clear pA pB oW hco
  by_cases hc : c = 0
  · rw [if_pos hc, hsp hc]
    subst hc
    clear hsp SZ IN HW
    go_enter Tryd.func112, Tryd.ntmps112
    go_wp2_with fail
    all_goals
      go_ret
      refine ⟨ret_bool ?_, (Only.alloc Nob _ _).nob (Only.alloc Nob _ _)⟩
      first | rfl | (simp [*]; done)
  · rw [if_neg hc]
    have c0 : (c == 0) = false := by simp; omega
    clear hc hsp
    generalize sizeA ⟨c', l', m', t'⟩ = za at *
    generalize sizeZ ⟨c', l', m', t'⟩ = zb at *
    generalize insideB ⟨c', l', m', t'⟩ c = ib at *
    go_enter Tryd.func112, Tryd.ntmps112
    go_wp2_with fail
    refine (SZ.out _).mono ?_
    rintro e w2 ⟨rfl, o2⟩
    obtain ⟨⟨a0, a1, a2, a3⟩, ⟨b0, b1, b2, b3⟩, ow2⟩ := HW.out w2 o2
    go_wp2_with fail
    refine (IN.out _).mono ?_
    rintro e w3 ⟨rfl, o3⟩
    obtain ⟨⟨d0, d1, d2, d3⟩, -, ow3⟩ := HW.out w3 (o2.nob o3)
    clear a0 a1 a2 a3 b0 b1 b2 b3
    have HO := Lib.hid ow3
    cases ib
    case' true =>
      by_cases h1 : l ≤ za
      case' pos =>
        by_cases h2 : zb ≤ m
    all_goals
      go_wp2_with fail
      go_ret
      refine ⟨ret_bool ?_, HO.out⟩
      first | rfl | (simp [*]; done) | (simp at *; simp [*]; done) | (simp at *; omega)

end Go.Proofs.YtddjbfmohibgbaaDoor

/- Covers: the program's function. -/
namespace Go.Proofs.YtddjbfmohibgbaaDoor
open Go.RowKit

theorem good_mem {p : List Pc} (h : Good p) {k : Nat} (hk : k < p.length) : (runB p[k] = true ∨ plainB p[k] = true) ∧ p[k].t.length ≤ 1000 := h.2 _ (List.getElem_mem hk)

set_option maxRecDepth 100000 in
set_option maxHeartbeats 4000000 in
theorem pairwise_any (v1 v2 : Value) (p q : List Pc) (w : World) (hp : Pcs w v1 p) (hq : Pcs w v2 q) (gp : Good p) (gq : Good q) : Calls Tryd.prog 66 #[v1, v2] w (BoolPost (pairB p q) w) := by
  obtain ⟨a1, c1, rfl⟩ := hp.form
  obtain ⟨a2, c2, rfl⟩ := hq.form
  have l1 := gp.1
  have l2 := gq.1
  by_cases hl : p.length = q.length
  · have HB : ∃ k : Nat, k ≤ p.length ∧ (.int .i64 (0 : Nat) : Value) = .int .i64 k ∧ pairB (p.take k) (q.take k) = true ∧ Only Nob w w := ⟨0, Nat.zero_le _, rfl, rfl, Only.refl _ _⟩
    have HB := Lib.hid HB
    have hl' : q.length ≤ p.length ∧ p.length ≤ q.length := by omega
    rw [← hl] at hq ⊢
    clear hl
    go_enter Tryd.func66, Tryd.ntmps66
    go_wp2_with fail
    go_loopw [13] (fun i wr => ∃ k : Nat, k ≤ p.length ∧ i = .int .i64 k ∧ pairB (p.take k) (q.take k) = true ∧ Only Nob w wr) (fun i _ => p.length - (intOf i).toNat)
    case atStart => exact HB.out
    case round =>
      obtain ⟨k, hk, rfl, hok, hon⟩ := hrel
      clear HB
      by_cases hlt : k < p.length
      · have hlq : k < q.length := by omega
        obtain ⟨b1, o1, rfl, hb1, e0, e1, e2, e3⟩ := (hp.nob hon).at hlt
        obtain ⟨b2, o2, rfl, hb2, f0, f1, f2, f3⟩ := (hq.nob hon).at hlq
        have hst := Lib.hid (pairB_take p q k hlt hlq)
        have C := Lib.hid (fun w => covers_any p[k] q[k] w (good_mem gp hlt).1 (good_mem gq hlq).1 (good_mem gq hlq).2)
        have kk : (k : Int) < (p.length : Int) := by omega
        have HO := Lib.hid hon
        have HK := Lib.hid hok
        generalize p[k] = x at hst C e0 e1 e2 e3
        generalize q[k] = y at hst C f0 f1 f2 f3
        obtain ⟨c, l, m, t⟩ := x
        obtain ⟨c', l', m', t'⟩ := y
        unfold pcV SV at C
        simp only at e0 e1 e2 e3 f0 f1 f2 f3 C
        clear hok hon hlq hb1 hb2
        cases hcv : coversB ⟨c, l, m, t⟩ ⟨c', l', m', t'⟩
        case' false =>
          have HF : Hid (pairB (p.take (k + 1)) (q.take (k + 1)) = false) := by rw [hst.out, hcv, Bool.and_false]; rfl
        case' true =>
          have HF : Hid (pairB (p.take (k + 1)) (q.take (k + 1)) = true) := by rw [hst.out, hcv, HK.out]; rfl
        all_goals
          rw [hcv] at C
          clear hcv hst
          go_wp2_with fail
          go_region_held3 (fun w' => (w'.cell? ⟨b1, o1 + k * 4, none⟩ = some (.int .i64 c) ∧ w'.cell? ⟨b1, o1 + k * 4 + 1, none⟩ = some (.int .i64 l) ∧ w'.cell? ⟨b1, o1 + k * 4 + 2, none⟩ = some (.int .i64 m) ∧ w'.cell? ⟨b1, o1 + k * 4 + 3, none⟩ = some (.string ⟨t.toArray⟩)) ∧ (w'.cell? ⟨b2, o2 + k * 4, none⟩ = some (.int .i64 c') ∧ w'.cell? ⟨b2, o2 + k * 4 + 1, none⟩ = some (.int .i64 l') ∧ w'.cell? ⟨b2, o2 + k * 4 + 2, none⟩ = some (.int .i64 m') ∧ w'.cell? ⟨b2, o2 + k * 4 + 3, none⟩ = some (.string ⟨t'.toArray⟩)))
            (first | exact u1 | exact ⟨⟨e0, e1, e2, e3⟩, ⟨f0, f1, f2, f3⟩⟩ | fail)
            (first
              | (go_at_call 112; (with_reducible refine (C.out _).mono ?_); rintro e w2 ⟨rfl, oc⟩; have u1 := And.intro (PcAt.other (S := Nob) (x := ⟨c, l, m, t⟩) ⟨e0, e1, e2, e3⟩ (Only.nob (Only.drew Nob _) oc) (fun h => h)) (PcAt.other (S := Nob) (x := ⟨c', l', m', t'⟩) ⟨f0, f1, f2, f3⟩ (Only.nob (Only.drew Nob _) oc) (fun h => h)))
              | fail)
          clear u1
          go_wp2
          first
            | (go_roundw
               case rel => exact ⟨k + 1, by omega, by go_num, HF.out, (HO.out.nob (Only.drew Nob _)).nob oc⟩
               case measure => simp [intOf]; omega)
            | (go_ret
               exact ⟨ret_bool (pairB_not HF.out).symm, (HO.out.nob (Only.drew Nob _)).nob oc⟩)
      · obtain rfl : k = p.length := by omega
        rw [List.take_of_length_le (Nat.le_refl _), List.take_of_length_le (by omega)] at hok
        have HK := Lib.hid hok
        clear hok
        go_wp2
        go_ret
        exact ⟨ret_bool HK.out.symm, hon⟩
  · have e := Lib.hid (pairB_len hl)
    have h1 : ((p.length : Int) == (q.length : Int)) = false := by simp; omega
    have h2 : ((p.length : Int) != (q.length : Int)) = true := by simp; omega
    go_enter Tryd.func66, Tryd.ntmps66
    go_wp2
    go_ret
    exact ⟨ret_bool e.out.symm, Only.refl _ _⟩

end Go.Proofs.YtddjbfmohibgbaaDoor

/- Covers: the program's function, whole. -/
namespace Go.Proofs.YtddjbfmohibgbaaDoor
open Go.RowKit

theorem all_take_succ (q : List Pc) (f : Pc → Bool) (k : Nat) (h : k < q.length) : (q.take (k + 1)).all f = ((q.take k).all f && f q[k]) := by
  rw [List.take_succ_eq_append_getElem h, List.all_append]; simp
theorem all_not {q : List Pc} {f : Pc → Bool} {k : Nat} (h : k < q.length) (hf : f q[k] = false) : q.all f = false := by
  rw [List.all_eq_false]
  exact ⟨q[k], List.getElem_mem h, by simp [hf]⟩

theorem oneB_len {p q : List Pc} (hl : ¬ p.length = 1) : oneB p q = false := by
  match p, hl with
  | [], _ => rfl
  | [_], h => exact absurd rfl h
  | _ :: _ :: _, _ => rfl
theorem one_of_len {p : List Pc} (hl : p.length = 1) : ∃ a, p = [a] := by
  match p, hl with
  | [a], _ => exact ⟨a, rfl⟩
theorem oneB_zero {l m : Int} {t : List UInt8} {q : List Pc} : oneB [⟨0, l, m, t⟩] q = false := by simp [oneB]
theorem oneB_bad {c l m : Int} {t : List UInt8} {q : List Pc} (h : q.all (fun x => insideB x c) = false) : oneB [⟨c, l, m, t⟩] q = false := by
  unfold oneB
  simp only
  rw [h]
  simp
theorem oneB_end {c l m : Int} {t : List UInt8} {q : List Pc} (hc : ¬ c = 0) (h : q.all (fun x => insideB x c) = true) : oneB [⟨c, l, m, t⟩] q = (decide (l ≤ sumA q) && decide (min (sumZ q) 200 ≤ m)) := by
  unfold oneB
  simp only
  rw [h]
  simp [hc]

def CvRel (w : World) (a : Pc) (q : List Pc) (av zv iv : Value) (wr : World) : Prop :=
  ∃ k : Nat, k ≤ q.length ∧ iv = .int .i64 k ∧ av = .int .i64 (sumA (q.take k)) ∧ zv = .int .i64 (sumZ (q.take k)) ∧ (q.take k).all (fun x => insideB x a.c) = true ∧ Only Nob w wr

set_option maxRecDepth 100000 in
set_option maxHeartbeats 4000000 in
theorem coverP_any (v1 v2 : Value) (p q : List Pc) (w : World) (hp : Pcs w v1 p) (hq : Pcs w v2 q) (gp : Fair p) (gq : Fair q) (ht : Tab w) : Calls Tryd.prog 28 #[v1, v2] w (BoolPost (coverB p q) w) := by
  have R1 := Lib.hid (right_any v1 p w hp gp ht)
  have R2 := Lib.hid (fun w2 (o : Only Nob w w2) => right_any v2 q w2 (hq.nob o) gq (ht.other o))
  obtain ⟨a1, c1, rfl⟩ := hp.form
  obtain ⟨a2, c2, rfl⟩ := hq.form
  cases r1 : rightB p
  · have HE : Hid (coverB p q = false) := by show _ = _; unfold coverB; rw [r1]; rfl
    rw [r1] at R1
    clear r1
    go_enter Tryd.func28, Tryd.ntmps28
    go_wp2_with (go_at_call 57; refine R1.out.mono ?_; rintro e w2 ⟨rfl, o2⟩)
    go_ret
    exact ⟨ret_bool HE.out.symm, o2⟩
  rw [r1] at R1
  cases r2 : rightB q
  · have HE : Hid (coverB p q = false) := by show _ = _; unfold coverB; rw [r1, r2]; rfl
    rw [r2] at R2
    clear r1 r2
    go_enter Tryd.func28, Tryd.ntmps28
    go_wp2_with fail
    refine R1.out.mono ?_
    rintro e w2 ⟨rfl, o2⟩
    go_wp2_with fail
    refine (R2.out _ o2).mono ?_
    rintro e w3 ⟨rfl, o3⟩
    go_wp2
    go_ret
    exact ⟨ret_bool HE.out.symm, o2.nob o3⟩
  rw [r2] at R2
  have g1 := okFrom_good gp r1
  have g2 := okFrom_good gq r2
  have P := Lib.hid (fun w2 (o : Only Nob w w2) => pairwise_any _ _ p q w2 (hp.nob o) (hq.nob o) g1 g2)
  cases hpr : pairB p q
  case' true =>
    have HE : Hid (coverB p q = true) := by show _ = _; unfold coverB; rw [r1, r2, hpr]; rfl
    rw [hpr] at P
    clear r1 r2 hpr
    go_enter Tryd.func28, Tryd.ntmps28
    go_wp2_with fail
    refine R1.out.mono ?_
    rintro e w2 ⟨rfl, o2⟩
    go_wp2_with fail
    refine (R2.out _ o2).mono ?_
    rintro e w3 ⟨rfl, o3⟩
    go_wp2_with fail
    refine (P.out _ (o2.nob o3)).mono ?_
    rintro e w4 ⟨rfl, o4⟩
    go_wp2
    go_ret
    exact ⟨ret_bool HE.out.symm, (o2.nob o3).nob o4⟩
  rw [hpr] at P
  have hco : coverB p q = oneB p q := by unfold coverB; rw [r1, r2, hpr]; rfl
  rw [hco]
  clear hco r1 r2 hpr
  by_cases hl : p.length = 1
  case' neg =>
    have HE := Lib.hid (oneB_len (q := q) hl)
    have b1 : ((p.length : Int) == 1) = false := by simp; omega
    have b2 : ((p.length : Int) != 1) = true := by simp; omega
    clear hl
    go_enter Tryd.func28, Tryd.ntmps28
    go_wp2_with fail
    refine R1.out.mono ?_
    rintro e w2 ⟨rfl, o2⟩
    go_wp2_with fail
    refine (R2.out _ o2).mono ?_
    rintro e w3 ⟨rfl, o3⟩
    go_wp2_with fail
    refine (P.out _ (o2.nob o3)).mono ?_
    rintro e w4 ⟨rfl, o4⟩
    go_wp2
    go_ret
    exact ⟨ret_bool HE.out.symm, (o2.nob o3).nob o4⟩
  obtain ⟨a, rfl⟩ := one_of_len hl
  have HPA := Lib.hid (show ∀ w', Only Nob w w' → ∃ b off, a1 = some ⟨b, off, none⟩ ∧ PcAt w' b off a from fun w' o => by
    obtain ⟨b', off', hv, _, h⟩ := (hp.nob o).at (k := 0) (by simp)
    exact ⟨b', off', hv, by simpa using h⟩)
  obtain ⟨b, off, rfl, _⟩ := HPA.out w (Only.refl _ _)
  have HPA := Lib.hid (show ∀ w', Only Nob w w' → PcAt w' b off a from fun w' o => by
    obtain ⟨b', off', hv, h⟩ := HPA.out w' o
    simp only [Option.some.injEq, Addr.mk.injEq] at hv
    obtain ⟨rfl, rfl, _⟩ := hv
    exact h)
  simp only [List.length_cons, List.length_nil, Nat.zero_add] at R1 P hp ⊢
  obtain ⟨c, l, m, t⟩ := a
  by_cases hc : c = 0
  case' pos =>
    subst hc
    have HE := Lib.hid (oneB_zero (l := l) (m := m) (t := t) (q := q))
    go_enter Tryd.func28, Tryd.ntmps28
    go_wp2_with fail
    refine R1.out.mono ?_
    rintro e w2 ⟨rfl, o2⟩
    go_wp2_with fail
    refine (R2.out _ o2).mono ?_
    rintro e w3 ⟨rfl, o3⟩
    go_wp2_with fail
    refine (P.out _ (o2.nob o3)).mono ?_
    rintro e w4 ⟨rfl, o4⟩
    obtain ⟨e0, e1, e2, e3⟩ := HPA.out _ ((o2.nob o3).nob o4)
    go_wp2
    go_ret
    exact ⟨ret_bool HE.out.symm, (o2.nob o3).nob o4⟩
  have c0 : (c == 0) = false := by simp; omega
  have HC := Lib.hid hc
  clear hc
  have hql := g2.1
  go_enter Tryd.func28, Tryd.ntmps28
  go_wp2_with fail
  refine R1.out.mono ?_
  rintro e w2 ⟨rfl, o2⟩
  go_wp2_with fail
  refine (R2.out _ o2).mono ?_
  rintro e w3 ⟨rfl, o3⟩
  go_wp2_with fail
  refine (P.out _ (o2.nob o3)).mono ?_
  rintro e w4 ⟨rfl, o4⟩
  obtain ⟨e0, e1, e2, e3⟩ := HPA.out _ ((o2.nob o3).nob o4)
  have HB := Lib.hid (show CvRel w ⟨c, l, m, t⟩ q (.int .i64 0) (.int .i64 0) (.int .i64 (0 : Nat)) w4 from ⟨0, Nat.zero_le _, rfl, by simp [sumA], by simp [sumZ], rfl, (o2.nob o3).nob o4⟩)
  go_wp2_with fail
  go_loopw [5, 6, 37] (fun av zv i wr => CvRel w ⟨c, l, m, t⟩ q av zv i wr) (fun _ _ i _ => q.length - (intOf i).toNat)
  case atStart => exact HB.out
  case round =>
    obtain ⟨k, hk, rfl, rfl, rfl, hok, hon⟩ := hrel
    clear HB e0 e1 e2 e3
    obtain ⟨e0, e1, e2, e3⟩ := HPA.out _ hon
    have hsum := sum_ok (q.take k) (fun x hx => g2.2 x (List.mem_of_mem_take hx))
    have htl : (q.take k).length ≤ 60 := by rw [List.length_take]; omega
    by_cases hlt : k < q.length
    · obtain ⟨b2, o2', rfl, hb2, f0, f1, f2, f3⟩ := (hq.nob hon).at hlt
      have hgm := good_mem g2 hlt
      have hsz := size_ok hgm.1 hgm.2
      have HAll := Lib.hid (all_take_succ q (fun x => insideB x c) k hlt)
      have HNot := Lib.hid (fun h => all_not (f := fun x => insideB x c) hlt h)
      have HA := Lib.hid (show sumA (q.take (k + 1)) = sumA (q.take k) + sizeA q[k] by rw [List.take_succ_eq_append_getElem hlt, sumA_snoc])
      have HZ := Lib.hid (show sumZ (q.take (k + 1)) = sumZ (q.take k) + sizeZ q[k] by rw [List.take_succ_eq_append_getElem hlt, sumZ_snoc])
      have IN := Lib.hid (fun w => inside_any q[k] c w hgm.2)
      have SZ := Lib.hid (size_any q[k])
      have kk : (k : Int) < (q.length : Int) := by omega
      have HO := Lib.hid hon
      have HK := Lib.hid hok
      generalize q[k] = x at hsz HAll HNot HA HZ IN SZ f0 f1 f2 f3
      generalize sumA (q.take k) = sa at hsum HA ⊢
      generalize sumZ (q.take k) = sz at hsum HZ ⊢
      generalize sizeA x = xa at hsz HA SZ
      generalize sizeZ x = xz at hsz HZ SZ
      obtain ⟨c', l', m', t'⟩ := x
      unfold pcV SV at IN SZ
      simp only at f0 f1 f2 f3 IN SZ
      have hz1 : IntKind.i64.wrap (sa + xa) = sa + xa := IntWalk.i64_in _ (by omega)
      have hz2 : IntKind.i64.wrap (sz + xz) = sz + xz := IntWalk.i64_in _ (by omega)
      have oB : Only Nob wr (wr.alloc (.cells #[.int .i64 c', .int .i64 l', .int .i64 m', .string ⟨t'.toArray⟩] 31)) := Only.alloc _ _ _
      have HX := Lib.hid (show ∀ w', Only Nob (wr.alloc (.cells #[.int .i64 c', .int .i64 l', .int .i64 m', .string ⟨t'.toArray⟩] 31)) w' → ((w'.cell? ⟨wr.heap.size, 0, none⟩ = some (.int .i64 c') ∧ w'.cell? ⟨wr.heap.size, 1, none⟩ = some (.int .i64 l') ∧ w'.cell? ⟨wr.heap.size, 2, none⟩ = some (.int .i64 m') ∧ w'.cell? ⟨wr.heap.size, 3, none⟩ = some (.string ⟨t'.toArray⟩)) ∧ w'.cell? ⟨b, off, none⟩ = some (.int .i64 c)) ∧ Only Nob w w' from fun w' o => by
        have h : PcAt (wr.alloc (.cells #[.int .i64 c', .int .i64 l', .int .i64 m', .string ⟨t'.toArray⟩] 31)) wr.heap.size 0 ⟨c', l', m', t'⟩ := by unfold PcAt; simp
        obtain ⟨h0, h1, h2, h3⟩ := h.other o (fun h => h)
        exact ⟨⟨⟨h0, h1, h2, h3⟩, (HPA.out w' ((HO.out.nob oB).nob o)).1⟩, (HO.out.nob oB).nob o⟩)
      clear hok hon hb2 hgm oB
      cases hin : insideB ⟨c', l', m', t'⟩ c
      · rw [hin] at IN
        have HE := Lib.hid (oneB_bad (l := l) (m := m) (t := t) (HNot.out hin))
        clear hin HAll HNot
        go_wp2_with fail
        go_region_held3 (fun w' => (w'.cell? ⟨wr.heap.size, 0, none⟩ = some (.int .i64 c') ∧ w'.cell? ⟨wr.heap.size, 1, none⟩ = some (.int .i64 l') ∧ w'.cell? ⟨wr.heap.size, 2, none⟩ = some (.int .i64 m') ∧ w'.cell? ⟨wr.heap.size, 3, none⟩ = some (.string ⟨t'.toArray⟩)) ∧ w'.cell? ⟨b, off, none⟩ = some (.int .i64 c))
          (first | exact u1 | exact (HX.out _ (Only.drew Nob _)).1 | fail)
          (first
            | (go_at_call 67; (with_reducible refine (IN.out _).mono ?_); rintro e w5 ⟨rfl, oc⟩; have u2 := HX.out _ (Only.nob (Only.drew Nob _) oc); have u1 := u2.1)
            | fail)
        clear u1
        go_wp2
        go_ret
        exact ⟨ret_bool HE.out.symm, u2.2⟩
      · rw [hin] at IN
        have HT : Hid ((q.take (k + 1)).all (fun x => insideB x c) = true) := by rw [HAll.out, HK.out, hin]; rfl
        clear hin HAll HNot
        go_wp2_with fail
        go_region_held3 (fun w' => (w'.cell? ⟨wr.heap.size, 0, none⟩ = some (.int .i64 c') ∧ w'.cell? ⟨wr.heap.size, 1, none⟩ = some (.int .i64 l') ∧ w'.cell? ⟨wr.heap.size, 2, none⟩ = some (.int .i64 m') ∧ w'.cell? ⟨wr.heap.size, 3, none⟩ = some (.string ⟨t'.toArray⟩)) ∧ w'.cell? ⟨b, off, none⟩ = some (.int .i64 c))
          (first | exact u1 | exact (HX.out _ (Only.drew Nob _)).1 | fail)
          (first
            | (go_at_call 67; (with_reducible refine (IN.out _).mono ?_); rintro e w5 ⟨rfl, oc⟩; have u2 := HX.out _ (Only.nob (Only.drew Nob _) oc); have u1 := u2.1)
            | fail)
        obtain ⟨⟨⟨x0, x1, x2, x3⟩, -⟩, o5⟩ := u2
        clear u1
        go_wp2_with fail
        refine (SZ.out _).mono ?_
        rintro e w6 ⟨rfl, o6⟩
        go_wp2_with fail
        go_roundw
        case rel => exact ⟨k + 1, by omega, by go_num, by rw [HA.out], by rw [HZ.out], HT.out, o5.nob o6⟩
        case measure => simp [intOf]; omega
    · obtain rfl : k = q.length := by omega
      rw [List.take_of_length_le (Nat.le_refl _)] at hok hsum ⊢
      have HE := Lib.hid (oneB_end (l := l) (m := m) (t := t) HC.out hok)
      have HO := Lib.hid hon
      clear hok hon
      generalize sumA q = sa at hsum HE ⊢
      generalize sumZ q = sz at hsum HE ⊢
      by_cases h1 : l ≤ sa
      case' neg =>
        go_wp2
        go_ret
        refine ⟨ret_bool ?_, HO.out⟩
        rw [HE.out, decide_eq_false (by omega : ¬ l ≤ sa)]
        rfl
      go_wp2
      go_ret
      refine ⟨ret_bool ?_, HO.out⟩
      rw [HE.out, decide_eq_true h1]
      rfl

end Go.Proofs.YtddjbfmohibgbaaDoor
