/- Covers: the program's function. -/
import Derived.Test.YtddjbfmohibgbaaDoorCov
import Derived.Deep.RegionHeld3
namespace Go.Proofs.YtddjbfmohibgbaaDoor
open Go.RowKit

theorem good_mem {p : List Pc} (h : Good p) {k : Nat} (hk : k < p.length) : (runB p[k] = true ∨ plainB p[k] = true) ∧ p[k].t.length ≤ 1000 := h.2 _ (List.getElem_mem hk)

set_option maxRecDepth 100000 in
set_option maxHeartbeats 4000000 in
theorem pairwise_any (v1 v2 : Value) (p q : List Pc) (w : World) (hp : Pcs w v1 p) (hq : Pcs w v2 q) (gp : Good p) (gq : Good q) : Calls Tryd.prog 66 #[v1, v2] w (BoolPost (pairB p q) w) := by
  obtain ⟨a1, c1, rfl⟩ := hp.form
  obtain ⟨a2, c2, rfl⟩ := hq.form
  have l1 := gp.1
  have l2 := gq.1
  by_cases hl : p.length = q.length
  · have HB : ∃ k : Nat, k ≤ p.length ∧ (.int .i64 (0 : Nat) : Value) = .int .i64 k ∧ pairB (p.take k) (q.take k) = true ∧ Only Nob w w := ⟨0, Nat.zero_le _, rfl, rfl, Only.refl _ _⟩
    have HB := Lib.hid HB
    have hl' : q.length ≤ p.length ∧ p.length ≤ q.length := by omega
    rw [← hl] at hq ⊢
    clear hl
    go_enter Tryd.func66, Tryd.ntmps66
    go_wp2_with fail
    go_loopw [13] (fun i wr => ∃ k : Nat, k ≤ p.length ∧ i = .int .i64 k ∧ pairB (p.take k) (q.take k) = true ∧ Only Nob w wr) (fun i _ => p.length - (intOf i).toNat)
    case atStart => exact HB.out
    case round =>
      obtain ⟨k, hk, rfl, hok, hon⟩ := hrel
      clear HB
      by_cases hlt : k < p.length
      · have hlq : k < q.length := by omega
        obtain ⟨b1, o1, rfl, hb1, e0, e1, e2, e3⟩ := (hp.nob hon).at hlt
        obtain ⟨b2, o2, rfl, hb2, f0, f1, f2, f3⟩ := (hq.nob hon).at hlq
        have hst := Lib.hid (pairB_take p q k hlt hlq)
        have C := Lib.hid (fun w => covers_any p[k] q[k] w (good_mem gp hlt).1 (good_mem gq hlq).1 (good_mem gq hlq).2)
        have kk : (k : Int) < (p.length : Int) := by omega
        have HO := Lib.hid hon
        have HK := Lib.hid hok
        generalize p[k] = x at hst C e0 e1 e2 e3
        generalize q[k] = y at hst C f0 f1 f2 f3
        obtain ⟨c, l, m, t⟩ := x
        obtain ⟨c', l', m', t'⟩ := y
        unfold pcV SV at C
        simp only at e0 e1 e2 e3 f0 f1 f2 f3 C
        clear hok hon hlq hb1 hb2
        cases hcv : coversB ⟨c, l, m, t⟩ ⟨c', l', m', t'⟩
        case' false =>
          have HF : Hid (pairB (p.take (k + 1)) (q.take (k + 1)) = false) := by rw [hst.out, hcv, Bool.and_false]; rfl
        case' true =>
          have HF : Hid (pairB (p.take (k + 1)) (q.take (k + 1)) = true) := by rw [hst.out, hcv, HK.out]; rfl
        all_goals
          rw [hcv] at C
          clear hcv hst
          go_wp2_with fail
          go_region_held3 (fun w' => (w'.cell? ⟨b1, o1 + k * 4, none⟩ = some (.int .i64 c) ∧ w'.cell? ⟨b1, o1 + k * 4 + 1, none⟩ = some (.int .i64 l) ∧ w'.cell? ⟨b1, o1 + k * 4 + 2, none⟩ = some (.int .i64 m) ∧ w'.cell? ⟨b1, o1 + k * 4 + 3, none⟩ = some (.string ⟨t.toArray⟩)) ∧ (w'.cell? ⟨b2, o2 + k * 4, none⟩ = some (.int .i64 c') ∧ w'.cell? ⟨b2, o2 + k * 4 + 1, none⟩ = some (.int .i64 l') ∧ w'.cell? ⟨b2, o2 + k * 4 + 2, none⟩ = some (.int .i64 m') ∧ w'.cell? ⟨b2, o2 + k * 4 + 3, none⟩ = some (.string ⟨t'.toArray⟩)))
            (first | exact u1 | exact ⟨⟨e0, e1, e2, e3⟩, ⟨f0, f1, f2, f3⟩⟩ | fail)
            (first
              | (go_at_call 112; (with_reducible refine (C.out _).mono ?_); rintro e w2 ⟨rfl, oc⟩; have u1 := And.intro (PcAt.other (S := Nob) (x := ⟨c, l, m, t⟩) ⟨e0, e1, e2, e3⟩ (Only.nob (Only.drew Nob _) oc) (fun h => h)) (PcAt.other (S := Nob) (x := ⟨c', l', m', t'⟩) ⟨f0, f1, f2, f3⟩ (Only.nob (Only.drew Nob _) oc) (fun h => h)))
              | fail)
          clear u1
          go_wp2
          first
            | (go_roundw
               case rel => exact ⟨k + 1, by omega, by go_num, HF.out, (HO.out.nob (Only.drew Nob _)).nob oc⟩
               case measure => simp [intOf]; omega)
            | (go_ret
               exact ⟨ret_bool (pairB_not HF.out).symm, (HO.out.nob (Only.drew Nob _)).nob oc⟩)
      · obtain rfl : k = p.length := by omega
        rw [List.take_of_length_le (Nat.le_refl _), List.take_of_length_le (by omega)] at hok
        have HK := Lib.hid hok
        clear hok
        go_wp2
        go_ret
        exact ⟨ret_bool HK.out.symm, hon⟩
  · have e := Lib.hid (pairB_len hl)
    have h1 : ((p.length : Int) == (q.length : Int)) = false := by simp; omega
    have h2 : ((p.length : Int) != (q.length : Int)) = true := by simp; omega
    go_enter Tryd.func66, Tryd.ntmps66
    go_wp2
    go_ret
    exact ⟨ret_bool e.out.symm, Only.refl _ _⟩

end Go.Proofs.YtddjbfmohibgbaaDoor
