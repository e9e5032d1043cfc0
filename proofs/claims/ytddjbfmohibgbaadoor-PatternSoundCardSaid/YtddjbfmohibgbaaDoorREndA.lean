/- Chapter 05: the reference: Matches; small functions. -/
import Derived.Test.YtddjbfmohibgbaaDoorEndA
import Derived.Test.YtddjbfmohibgbaaDoorRWrA
import Derived.Deep.QuietTactic
import Derived.BigQuiet

/- What a pattern reaches: the reference's function; its Matches. -/
namespace Go.Proofs.YtddjbfmohibgbaaDoor
open Go.RowKit

/-- The loop over the pieces. -/
def REo (w : World) (p : List Pc) (s : List UInt8) (f : Nat) (nv jv : Value) (wr : World) : Prop :=
  ∃ (j g : Nat), jv = .int .i64 j ∧ nv = .slice (some ⟨g, 0, none⟩) (s.length + 1) (s.length + 1) ∧ j ≤ p.length ∧ BRow wr g (reachL (p.take j) s f) ∧ Only Nob w wr ∧ w.heap.size ≤ g
/-- The loop over the offsets. -/
def REk (w : World) (x : Pc) (s : List UInt8) (now : List Bool) (g g2 : Nat) (kv : Value) (wr : World) : Prop :=
  ∃ k : Nat, kv = .int .i64 k ∧ k ≤ s.length + 1 ∧ BRow wr g now ∧ BRow wr g2 (stepF x s now k) ∧ Only Nob w wr
/-- The loop over the counts. -/
def REn (w : World) (x : Pc) (s : List UInt8) (now : List Bool) (k g g2 : Nat) (nv : Value) (wr : World) : Prop :=
  ∃ (n f : Nat) (pre : List Nat), nv = .int .i64 n ∧ k + n ≤ s.length + 1 ∧ s.length + 2 ≤ f + n ∧ endsL x s k = pre ++ runL x s k f n ∧ BRow wr g now ∧ BRow wr g2 (marks pre (stepF x s now k)) ∧ Only Nob w wr

theorem mid_slice (s : List UInt8) (a b : Nat) (h1 : a ≤ b) (h2 : b ≤ s.length) (w : World) : (Instr.slice 9 (.string ⟨s.toArray⟩) (some (.int .i64 (a : Int))) (some (.int .i64 (b : Int))) none).run Tryd.prog w = .ok (.string ⟨((s.drop a).take (b - a)).toArray⟩) w := by
  have hs : (⟨s.toArray⟩ : ByteArray).size = s.length := rfl
  have h := run_slice_string (P := Tryd.prog) (w := w) 9 ⟨s.toArray⟩ .i64 .i64 (a : Int) (b : Int) Tryd.underlying9 (by omega) (by omega) (by rw [hs]; omega)
  rw [h, Int.toNat_natCast, Int.toNat_natCast]
  have e : (⟨s.toArray⟩ : ByteArray).extract a b = ⟨((s.drop a).take (b - a)).toArray⟩ := by
    apply str_eq
    rw [Lib.extract_data]
  rw [e]

set_option maxRecDepth 100000 in
set_option maxHeartbeats 4000000 in
theorem rends_any (v : Value) (p : List Pc) (s : List UInt8) (f : Nat) (w : World) (hp : Pcs w v p) (hg : Fair p) (hs : s.length ≤ 1000) (hf : f ≤ s.length) :
    Calls Tryd.prog 65 #[v, .string ⟨s.toArray⟩, .int .i64 f] w fun e w' => ∃ g, e = .returned (.slice (some ⟨g, 0, none⟩) (s.length + 1) (s.length + 1)) ∧ BRow w' g (reachL p s f) ∧ Only Nob w w' := by
  obtain ⟨ao, cap, rfl⟩ := hp.form
  have hlen := hg.1
  have mk0 := fun w => run_bools w (s.length + 1) (by omega)
  simp only [show ((s.length + 1 : Nat) : Int) = (s.length : Int) + 1 by omega] at mk0
  have mk := mk0 w
  have MK := Lib.hid mk0
  have hw1 : IntKind.i64.wrap ((s.length : Int) + 1) = (s.length : Int) + 1 := IntWalk.i64_in _ (by omega)
  have hb0 := BRow.new w (s.length + 1)
  have oA : Only Nob w (w.alloc (.cells (Array.replicate (s.length + 1) (Value.bool false)) 4)) := Only.alloc _ _ _
  generalize w.alloc (.cells (Array.replicate (s.length + 1) (Value.bool false)) 4) = wA at mk hb0 oA
  have hfr := hb0.free f
  have hce := hb0.cell (i := f) (by simp; omega)
  have hf2 : (f : Int) < (s.length : Int) + 1 := by omega
  have hf3 : f < s.length + 1 := by omega
  have hb1 := hb0.set f true
  have oB : Only Nob w (wA.setCell ⟨w.heap.size, f, none⟩ (.bool true)) := oA.trans (Only.setCell (S := fun k => w.heap.size ≤ k) wA ⟨w.heap.size, f, none⟩ _ (Nat.le_refl _)) (fun i hi h => absurd hi (Nat.not_lt.2 h))
  have HB : REo w p s f (.slice (some ⟨w.heap.size, 0, none⟩) (s.length + 1) (s.length + 1)) (.int .i64 (0 : Nat)) (wA.setCell ⟨w.heap.size, f, none⟩ (.bool true)) := ⟨0, w.heap.size, rfl, rfl, Nat.zero_le _, hb1, oB, Nat.le_refl _⟩
  clear mk0 hb0 oA hb1 oB
  go_enter Tryd.func65, Tryd.ntmps65
  go_wp2_with fail
  go_loopw [7, 8] (fun nv jv wr => REo w p s f nv jv wr) (fun _ j _ => p.length - (intOf j).toNat)
  case atStart => exact HB
  case round =>
    obtain ⟨j, g, rfl, rfl, hj, hrow, hon, hgw⟩ := hrel
    clear HB hfr hce mk
    by_cases hlt : j < p.length
    · have hxo := hg.2 _ (List.getElem_mem hlt)
      obtain ⟨b, off, rfl, hb, hat⟩ := (hp.nob hon).at hlt
      have hst := Lib.hid (show reachL (p.take (j + 1)) s f = stepL p[j] s (reachL (p.take j) s f) by rw [List.take_succ_eq_append_getElem hlt, reachL_snoc])
      have hnl := length_reachL (p.take j) s f
      have HPA := Lib.hid (show ∀ w', Only Nob w w' → PcAt w' b (off + j * 4) p[j] from fun w' o => by
        obtain ⟨b', off', hv, _, h⟩ := (hp.nob o).at hlt
        simp only [Option.some.injEq, Addr.mk.injEq] at hv
        obtain ⟨rfl, rfl, _⟩ := hv
        exact h)
      generalize reachL (p.take j) s f = now at hrow hst hnl
      generalize p[j] = x at hxo hst hat HPA
      obtain ⟨c, l', m, t⟩ := x
      obtain ⟨hx1, hx2, hx3, hx4⟩ := hxo
      simp only at hx1 hx2 hx3 hx4
      have kk : (j : Int) < (p.length : Int) := by omega
      have mk := MK.out wr
      have hgl := hrow.lt
      have oW : Only Nob wr (wr.alloc (.cells (Array.replicate (s.length + 1) (Value.bool false)) 4)) := Only.alloc _ _ _
      have hn0 : BRow (wr.alloc (.cells (Array.replicate (s.length + 1) (Value.bool false)) 4)) wr.heap.size (stepF ⟨c, l', m, t⟩ s now 0) := BRow.new wr (s.length + 1)
      have HK : REk w ⟨c, l', m, t⟩ s now g wr.heap.size (.int .i64 (0 : Nat)) (wr.alloc (.cells (Array.replicate (s.length + 1) (Value.bool false)) 4)) := ⟨0, rfl, Nat.zero_le _, hrow.other oW (fun h => h), hn0, hon.nob oW⟩
      have hgz := hon.size
      generalize wr.alloc (.cells (Array.replicate (s.length + 1) (Value.bool false)) 4) = wB at mk HK
      obtain ⟨g2, hg2⟩ : ∃ g2, g2 = wr.heap.size := ⟨_, rfl⟩
      rw [← hg2] at mk HK hgl hgz
      clear oW hn0 hrow hon hat hg2
      go_wp2_with fail
      go_loopw [10] (fun kv wr => REk w ⟨c, l', m, t⟩ s now g g2 kv wr) (fun k _ => s.length + 1 - (intOf k).toNat)
      case atStart => exact HK
      case round =>
        obtain ⟨k, rfl, hk, hrow, hnx, hon⟩ := hrel
        clear HK mk
        by_cases hkn : k < s.length + 1
        · have hkk : (k : Int) < (s.length : Int) + 1 := by omega
          have hkl : (k : Int) ≤ (s.length : Int) := by omega
          have hcell := hrow.cell (i := k) (by omega)
          have hgd : now.getD k false = now[k] := getD_lt _ (by omega)
          have hsk := stepF_succ ⟨c, l', m, t⟩ s now k
          rw [hgd] at hsk
          have HSK := Lib.hid hsk
          clear hsk hgd
          obtain ⟨e0, e1, e2, e3⟩ := HPA.out _ hon
          cases hbk : now[k]
          · rw [hbk] at hcell HSK
            clear hbk
            go_wp2_with fail
            go_roundw
            case rel => exact ⟨k + 1, by go_num, by omega, hrow, by rw [HSK.out]; exact hnx, hon⟩
            case measure => simp [intOf]; omega
          · rw [hbk] at hcell HSK
            clear hbk
            have HS1 : Hid (stepF ⟨c, l', m, t⟩ s now (k + 1) = marks (endsL ⟨c, l', m, t⟩ s k) (stepF ⟨c, l', m, t⟩ s now k)) := by
              have h := HSK.out
              rw [if_pos rfl] at h
              exact h
            clear HSK
            by_cases hc : c = 0
            · subst hc
              have hw2 : IntKind.i64.wrap ((k : Int) + (t.length : Int)) = (k : Int) + (t.length : Int) := IntWalk.i64_in _ (by omega)
              by_cases hq : k + t.length ≤ s.length
              · have hq1 : (k : Int) + (t.length : Int) ≤ (s.length : Int) := by omega
                have sl := mid_slice s k (k + t.length) (by omega) hq
                simp only [show ((k + t.length : Nat) : Int) = (k : Int) + (t.length : Int) by omega, show k + t.length - k = t.length by omega] at sl
                by_cases hu : (s.drop k).take t.length = t
                · have hpf : t.isPrefixOf (s.drop k) = true := by rw [List.isPrefixOf_iff_prefix]; exact ⟨(s.drop k).drop t.length, by have h := List.take_append_drop t.length (s.drop k); rw [hu] at h; exact h⟩
                  have HE := Lib.hid (show endsL ⟨0, l', m, t⟩ s k = [k + t.length] by unfold endsL; rw [if_pos rfl, hpf]; rfl)
                  rw [hu] at sl
                  clear hu hpf
                  have hq2 : (k : Int) + (t.length : Int) < (s.length : Int) + 1 := by omega
                  have hq3 : k + t.length < s.length + 1 := by omega
                  have hq4 : (0 : Int) ≤ (k : Int) + (t.length : Int) := by omega
                  go_wp2_with fail
                  go_quiet (fail)
                  obtain ⟨w2, hw2⟩ : ∃ w2 : World, w2 = wr.drewN nq := ⟨_, rfl⟩
                  have oq : Only Nob wr w2 := by rw [hw2]; exact Only.drewN Nob wr nq
                  rw [← hw2]
                  clear hw2
                  have hrow := hrow.other oq (fun h => h)
                  have hnx := hnx.other oq (fun h => h)
                  have hon := hon.nob oq
                  have hc2 := hnx.cell (i := k + t.length) (by rw [length_stepF]; omega)
                  generalize (stepF ⟨0, l', m, t⟩ s now k)[k + t.length]'(by rw [length_stepF]; omega) = ob at hc2
                  have hf2 := hnx.free (k + t.length)
                  have HS2 := Lib.hid (show BRow (w2.setCell ⟨g2, k + t.length, none⟩ (.bool true)) g2 (stepF ⟨0, l', m, t⟩ s now (k + 1)) by
                    rw [HS1.out, HE.out]
                    exact hnx.set _ true)
                  have oS : Only (Is g2) w2 (w2.setCell ⟨g2, k + t.length, none⟩ (.bool true)) := Only.setCell _ _ _ rfl
                  have HO2 := Lib.hid (And.intro (hrow.other oS (fun h => by have : g = g2 := h; omega)) (hon.trans oS (fun i hi h => by have : i = g2 := h; omega)))
                  clear hnx hrow hon hcell oS
                  go_wp2_with fail
                  go_roundw
                  case rel => exact ⟨k + 1, by go_num, by omega, HO2.out.1, HS2.out, HO2.out.2⟩
                  case measure => simp [intOf]; omega
                · have hpf : t.isPrefixOf (s.drop k) = false := by
                    cases h : t.isPrefixOf (s.drop k)
                    · rfl
                    · obtain ⟨r, hr⟩ := List.isPrefixOf_iff_prefix.1 h
                      exact absurd (by rw [← hr]; simp) hu
                  have HE := Lib.hid (show endsL ⟨0, l', m, t⟩ s k = [] by unfold endsL; rw [if_pos rfl, hpf]; rfl)
                  generalize (s.drop k).take t.length = u at sl hu
                  have hub : (u == t) = false := by simpa using hu
                  have HS2 := Lib.hid (show BRow wr g2 (stepF ⟨0, l', m, t⟩ s now (k + 1)) by
                    rw [HS1.out, HE.out]
                    exact hnx)
                  clear hpf
                  go_wp2_with fail
                  go_quiet (fail)
                  obtain ⟨w2, hw2⟩ : ∃ w2 : World, w2 = wr.drewN nq := ⟨_, rfl⟩
                  have oq : Only Nob wr w2 := by rw [hw2]; exact Only.drewN Nob wr nq
                  rw [← hw2]
                  clear hw2
                  go_wp2_with fail
                  go_roundw
                  case rel => exact ⟨k + 1, by go_num, by omega, hrow.other oq (fun h => h), HS2.out.other oq (fun h => h), hon.nob oq⟩
                  case measure => simp [intOf]; omega
              · have hpf : t.isPrefixOf (s.drop k) = false := by
                  cases h : t.isPrefixOf (s.drop k)
                  · rfl
                  · exact absurd (prefix_le h (by omega)) hq
                have HE := Lib.hid (show endsL ⟨0, l', m, t⟩ s k = [] by unfold endsL; rw [if_pos rfl, hpf]; rfl)
                have HS2 := Lib.hid (show BRow wr g2 (stepF ⟨0, l', m, t⟩ s now (k + 1)) by
                  rw [HS1.out, HE.out]
                  exact hnx)
                have hq1 : (s.length : Int) < (k : Int) + (t.length : Int) := by omega
                have hq2 : decide ((k : Int) + (t.length : Int) ≤ (s.length : Int)) = false := by simp; omega
                clear hpf
                go_wp2_with fail
                go_quiet (fail)
                obtain ⟨w2, hw2⟩ : ∃ w2 : World, w2 = wr.drewN nq := ⟨_, rfl⟩
                have oq : Only Nob wr w2 := by rw [hw2]; exact Only.drewN Nob wr nq
                rw [← hw2]
                clear hw2
                go_wp2_with fail
                go_roundw
                case rel => exact ⟨k + 1, by go_num, by omega, hrow.other oq (fun h => h), HS2.out.other oq (fun h => h), hon.nob oq⟩
                case measure => simp [intOf]; omega
            · have c0 : (c == 0) = false := by simp; omega
              have HE := Lib.hid (show endsL ⟨c, l', m, t⟩ s k = runL ⟨c, l', m, t⟩ s k (s.length + 2) 0 by unfold endsL; rw [if_neg hc])
              have HN : REn w ⟨c, l', m, t⟩ s now k g g2 (.int .i64 (0 : Nat)) wr := ⟨0, s.length + 2, [], rfl, by omega, by omega, by rw [HE.out]; rfl, hrow, hnx, hon⟩
              clear hc hrow hnx hon HE
              go_wp2_with fail
              go_loopw [12] (fun nv wr => REn w ⟨c, l', m, t⟩ s now k g g2 nv wr) (fun n _ => s.length + 2 - (intOf n).toNat)
              case atStart => exact HN
              case round =>
                obtain ⟨n, fu, pre, rfl, h1, h2, h3, hrow, hnx, hon⟩ := hrel
                clear HN e0 e1 e2 e3 hcell
                obtain ⟨e0, e1, e2, e3⟩ := HPA.out _ hon
                have G3 := Lib.hid h3
                clear h3
                have hw2 : IntKind.i64.wrap ((k : Int) + (n : Int)) = (k : Int) + (n : Int) := IntWalk.i64_in _ (by omega)
                by_cases hgo : (n : Int) ≤ m ∧ k + n ≤ s.length
                · obtain ⟨hm, hn⟩ := hgo
                  have hn' : (k : Int) + (n : Int) ≤ (s.length : Int) := by omega
                  obtain ⟨fu, rfl⟩ : ∃ f', fu = f' + 1 := ⟨fu - 1, by omega⟩
                  by_cases hn0 : n = 0
                  case' pos =>
                    subst hn0
                    have HG := Lib.hid (G3.out.trans (congrArg (pre ++ ·) (runL_go (f := fu) ⟨hm, hn⟩ (by omega))))
                    go_wp2_with fail
                    go_quiet (fail)
                    obtain ⟨w2, hw2⟩ : ∃ w2 : World, w2 = wr.drewN nq := ⟨_, rfl⟩
                    have oq : Only Nob wr w2 := by rw [hw2]; exact Only.drewN Nob wr nq
                    rw [← hw2]
                    clear hw2
                    have hrow := hrow.other oq (fun h => h)
                    have hnx := hnx.other oq (fun h => h)
                    have hon := hon.nob oq
                    obtain ⟨e0, e1, e2, e3⟩ := HPA.out _ hon
                    by_cases hl : l' ≤ ((0 : Nat) : Int)
                    · have hq2 : (k : Int) + ((0 : Nat) : Int) < (s.length : Int) + 1 := by omega
                      have hq3 : k + 0 < s.length + 1 := by omega
                      have hc2 := hnx.cell (i := k + 0) (by rw [length_marks, length_stepF]; omega)
                      generalize (marks pre (stepF ⟨c, l', m, t⟩ s now k))[k + 0]'(by rw [length_marks, length_stepF]; omega) = ob at hc2
                      have hf2 := hnx.free (k + 0)
                      simp only [Nat.add_zero] at hc2 hf2
                      have HG2 : Hid (endsL ⟨c, l', m, t⟩ s k = (pre ++ [k + 0]) ++ runL ⟨c, l', m, t⟩ s k fu (0 + 1)) := by
                        have h := HG.out
                        rw [if_pos hl] at h
                        rw [List.append_assoc]
                        exact h
                      have HS2 := Lib.hid (show BRow (w2.setCell ⟨g2, k + 0, none⟩ (.bool true)) g2 (marks (pre ++ [k + 0]) (stepF ⟨c, l', m, t⟩ s now k)) by
                        rw [marks_snoc]
                        exact hnx.set _ true)
                      have oS : Only (Is g2) w2 (w2.setCell ⟨g2, k + 0, none⟩ (.bool true)) := Only.setCell _ _ _ rfl
                      have HO2 := Lib.hid (And.intro (hrow.other oS (fun h => by have : g = g2 := h; omega)) (hon.trans oS (fun i hi h => by have : i = g2 := h; omega)))
                      clear hnx hrow hon oS HG
                      go_wp2_with fail
                      go_roundw
                      case rel => exact ⟨0 + 1, fu, pre ++ [k + 0], by go_num, by omega, by omega, HG2.out, HO2.out.1, HS2.out, HO2.out.2⟩
                      case measure => first | (simp [intOf]; done) | (simp [intOf]; omega)
                    · have hl' : ((0 : Nat) : Int) < l' := by omega
                      have hl2 : 0 < l' := by omega
                      have HG2 : Hid (endsL ⟨c, l', m, t⟩ s k = pre ++ runL ⟨c, l', m, t⟩ s k fu (0 + 1)) := by
                        have h := HG.out
                        rw [if_neg hl] at h
                        exact h
                      clear HG
                      go_wp2_with fail
                      go_roundw
                      case rel => exact ⟨0 + 1, fu, pre, by go_num, by omega, by omega, HG2.out, hrow, hnx, hon⟩
                      case measure => first | (simp [intOf]; done) | (simp [intOf]; omega)
                  case' neg =>
                    have hq : k + n - 1 < s.length := by omega
                    obtain ⟨q, hqe⟩ : ∃ q, q = k + n - 1 := ⟨_, rfl⟩
                    have hw3 : IntKind.i64.wrap ((k : Int) + (n : Int) - 1) = (q : Int) := by rw [IntWalk.i64_in _ (by omega)]; omega
                    have hn1 : (0 : Int) < (n : Int) := by omega
                    have hn2 : 0 < n := by omega
                    have hql : q < s.length := by omega
                    have hix := index_at s q hql
                    have hgd : s.getD (k + n - 1) 0 = s[q] := by subst hqe; exact getD_lt _ hq
                    clear hqe hq
                    go_wp2_with fail
                    have BB := Lib.hid (belongs_any s[q] c)
                    cases hcc : cin (cls s[q]) c
                    · rw [hcc] at BB
                      have HF := Lib.hid (show BRow wr.drew g2 (stepF ⟨c, l', m, t⟩ s now (k + 1)) by
                        have h := G3.out
                        rw [runL_bad ⟨hn2, by rw [hgd]; exact hcc⟩, List.append_nil] at h
                        rw [HS1.out, h]
                        exact hnx)
                      clear hcc hgd
                      go_region_held3 (fun w' => w'.cell? ⟨b, off + j * 4, none⟩ = some (.int .i64 c)) (first | exact e0 | fail)
                        (first
                          | (go_at_call 111; (with_reducible refine (BB.out _).mono ?_); rintro e w' ⟨rfl, rfl⟩)
                          | fail)
                      go_wp2_with fail
                      go_roundw
                      case rel => exact ⟨k + 1, by go_num, by omega, hrow, HF.out, hon.nob (Only.drew Nob wr)⟩
                      case measure => simp [intOf]; omega
                    rw [hcc] at BB
                    have HG := Lib.hid (G3.out.trans (congrArg (pre ++ ·) (runL_go (f := fu) ⟨hm, hn⟩ (by rw [hgd, hcc]; rintro ⟨_, h⟩; cases h))))
                    clear hcc hgd
                    go_region_held3 (fun w' => w'.cell? ⟨b, off + j * 4, none⟩ = some (.int .i64 c)) (first | exact e0 | fail)
                      (first
                        | (go_at_call 111; (with_reducible refine (BB.out _).mono ?_); rintro e w' ⟨rfl, rfl⟩)
                        | fail)
                    obtain ⟨w2, hw2⟩ : ∃ w2 : World, w2 = wr.drew := ⟨_, rfl⟩
                    have oq : Only Nob wr w2 := by rw [hw2]; exact Only.drew Nob wr
                    rw [← hw2]
                    clear hw2
                    have hrow := hrow.other oq (fun h => h)
                    have hnx := hnx.other oq (fun h => h)
                    have hon := hon.nob oq
                    obtain ⟨e0, e1, e2, e3⟩ := HPA.out _ hon
                    by_cases hl : l' ≤ ((n : Nat) : Int)
                    · have hq2 : (k : Int) + ((n : Nat) : Int) < (s.length : Int) + 1 := by omega
                      have hq3 : k + n < s.length + 1 := by omega
                      have hc2 := hnx.cell (i := k + n) (by rw [length_marks, length_stepF]; omega)
                      generalize (marks pre (stepF ⟨c, l', m, t⟩ s now k))[k + n]'(by rw [length_marks, length_stepF]; omega) = ob at hc2
                      have hf2 := hnx.free (k + n)
                      skip
                      have HG2 : Hid (endsL ⟨c, l', m, t⟩ s k = (pre ++ [k + n]) ++ runL ⟨c, l', m, t⟩ s k fu (n + 1)) := by
                        have h := HG.out
                        rw [if_pos hl] at h
                        rw [List.append_assoc]
                        exact h
                      have HS2 := Lib.hid (show BRow (w2.setCell ⟨g2, k + n, none⟩ (.bool true)) g2 (marks (pre ++ [k + n]) (stepF ⟨c, l', m, t⟩ s now k)) by
                        rw [marks_snoc]
                        exact hnx.set _ true)
                      have oS : Only (Is g2) w2 (w2.setCell ⟨g2, k + n, none⟩ (.bool true)) := Only.setCell _ _ _ rfl
                      have HO2 := Lib.hid (And.intro (hrow.other oS (fun h => by have : g = g2 := h; omega)) (hon.trans oS (fun i hi h => by have : i = g2 := h; omega)))
                      clear hnx hrow hon oS HG
                      go_wp2_with fail
                      go_roundw
                      case rel => exact ⟨n + 1, fu, pre ++ [k + n], by go_num, by omega, by omega, HG2.out, HO2.out.1, HS2.out, HO2.out.2⟩
                      case measure => first | (simp [intOf]; done) | (simp [intOf]; omega)
                    · have hl' : ((n : Nat) : Int) < l' := by omega
                      skip
                      have HG2 : Hid (endsL ⟨c, l', m, t⟩ s k = pre ++ runL ⟨c, l', m, t⟩ s k fu (n + 1)) := by
                        have h := HG.out
                        rw [if_neg hl] at h
                        exact h
                      clear HG
                      go_wp2_with fail
                      go_roundw
                      case rel => exact ⟨n + 1, fu, pre, by go_num, by omega, by omega, HG2.out, hrow, hnx, hon⟩
                      case measure => first | (simp [intOf]; done) | (simp [intOf]; omega)
                · have HF := Lib.hid (show BRow wr g2 (stepF ⟨c, l', m, t⟩ s now (k + 1)) by
                    have h := G3.out
                    rw [runL_stop hgo, List.append_nil] at h
                    rw [HS1.out, h]
                    exact hnx)
                  by_cases hm : (n : Int) ≤ m
                  case' pos => have hn' : (s.length : Int) < (k : Int) + (n : Int) := by omega
                  case' neg => have hm' : m < (n : Int) := by omega
                  all_goals
                    go_wp2_with fail
                    go_roundw
                    case rel => exact ⟨k + 1, by go_num, by omega, hrow, HF.out, hon⟩
                    case measure => simp [intOf]; omega
        · obtain rfl : k = s.length + 1 := by omega
          have HF := Lib.hid (show BRow wr g2 (reachL (p.take (j + 1)) s f) by rw [hst.out]; exact hnx)
          clear hnx hrow
          go_wp2_with fail
          go_roundw
          case rel => exact ⟨j + 1, g2, by go_num, rfl, by omega, HF.out, hon, by omega⟩
          case measure => simp [intOf]; omega
    · obtain rfl : j = p.length := by omega
      rw [List.take_of_length_le (Nat.le_refl _)] at hrow
      go_wp2
      go_ret
      exact ⟨g, rfl, hrow, hon⟩

set_option maxRecDepth 100000 in
set_option maxHeartbeats 2000000 in
theorem rmatches_any (v : Value) (p : List Pc) (s : List UInt8) (w : World) (hp : Pcs w v p) (hg : Fair p) (hs : s.length ≤ 9223372036854775807) : Calls Tryd.prog 27 #[v, .string ⟨s.toArray⟩] w (BoolPost (matchB p s) w) := by
  have R := Lib.hid (rright_any v p w hp hg)
  have T := Lib.hid (fun w => rtext_any ⟨s.toArray⟩ w hs)
  have e1 : (⟨s.toArray⟩ : ByteArray).data.toList = s := rfl
  rw [e1] at T
  clear e1
  cases hr : rightB p
  · have HE : Hid (matchB p s = false) := by show _ = _; unfold matchB; rw [hr]; rfl
    rw [hr] at R
    clear hr
    go_enter Tryd.func27, Tryd.ntmps27
    go_wp2_with (go_at_call 21; refine R.out.mono ?_; rintro e w2 ⟨rfl, o2⟩)
    go_ret
    exact ⟨ret_bool HE.out.symm, o2⟩
  cases hx : textB s
  · have HE : Hid (matchB p s = false) := by show _ = _; unfold matchB; rw [hr, hx]; rfl
    rw [hr] at R
    rw [hx] at T
    clear hr hx
    go_enter Tryd.func27, Tryd.ntmps27
    go_wp2_with fail
    refine R.out.mono ?_
    rintro e w2 ⟨rfl, o2⟩
    go_wp2_with fail
    refine (T.out _).mono ?_
    rintro e w' ⟨rfl, rfl⟩
    go_wp2
    go_ret
    exact ⟨ret_bool HE.out.symm, o2⟩
  · have HE : Hid (matchB p s = (reachL p s 0).getD s.length false) := by show _ = _; unfold matchB; rw [hr, hx]; rfl
    have hl : s.length ≤ 200 := by
      unfold textB at hx
      simp only [Bool.and_eq_true, decide_eq_true_eq] at hx
      exact hx.1
    have RC := Lib.hid (fun w2 (o2 : Only Nob w w2) => rends_any v p s 0 w2 (hp.nob o2) hg (by omega) (Nat.zero_le _))
    rw [hr] at R
    rw [hx] at T
    clear hr hx
    go_enter Tryd.func27, Tryd.ntmps27
    go_wp2_with fail
    refine R.out.mono ?_
    rintro e w2 ⟨rfl, o2⟩
    go_wp2_with fail
    refine (T.out _).mono ?_
    rintro e w' ⟨rfl, rfl⟩
    go_wp2_with fail
    refine (RC.out _ o2).mono ?_
    rintro e w4 ⟨g, rfl, hrow, o4⟩
    have hlr := length_reachL p s 0
    have hce := hrow.cell (i := s.length) (by omega)
    have hv : (reachL p s 0).getD s.length false = (reachL p s 0)[s.length]'(by omega) := getD_lt _ (by omega)
    rw [← hv] at hce
    have h1 : s.length < s.length + 1 := by omega
    have h2 : (s.length : Int) < (s.length : Int) + 1 := by omega
    clear hv hrow hlr
    generalize (reachL p s 0).getD s.length false = bb at hce HE
    go_wp2
    go_ret
    exact ⟨ret_bool HE.out.symm, o2.nob o4⟩

end Go.Proofs.YtddjbfmohibgbaaDoor

/- Small functions: Mod, cut. -/
namespace Go.Proofs.YtddjbfmohibgbaaDoor
open Go.RowKit

theorem rmod_any (n m : Int) (w : World) (_hn : Rng n) (h0 : 1 ≤ m) (h1 : m ≤ 1000) :
    Calls Tryd.prog 25 #[.int .i64 n, .int .i64 m] w fun e w' => e = .returned (.int .i64 (n % m)) ∧ w = w' := by
  have k1 := Int.tmod_lt_of_pos n (show 0 < m by omega)
  have k2 := Int.lt_tmod_of_pos n (show 0 < m by omega)
  have e1 : (n.tmod m + m) % m = n % m := by rw [Int.add_emod_right, Int.tmod_def, Int.sub_mul_emod_self_left]
  have e2 : n.tmod m % m = n % m := by rw [Int.tmod_def, Int.sub_mul_emod_self_left]
  have e3 : 0 ≤ n.tmod m → n.tmod m = n % m := fun h => by rw [← e2, Int.emod_eq_of_lt h (by omega)]
  have e4 : n.tmod m < 0 → n.tmod m + m = n % m := fun h => by rw [← e1, Int.emod_eq_of_lt (by omega) (by omega)]
  have E3 := Lib.hid e3
  have E4 := Lib.hid e4
  clear e1 e2 e3 e4
  by_cases h : n.tmod m < 0
  · go_enter Tryd.func25, Tryd.ntmps25
    go_wp2
    go_ret
    exact ⟨ret_int (E4.out h), rfl⟩
  · go_enter Tryd.func25, Tryd.ntmps25
    go_wp2
    go_ret
    exact ⟨ret_int (E3.out (by omega)), rfl⟩

theorem cut_any (s : List UInt8) (n : Nat) (w : World) (hn : n ≤ 1000) (hs : (s.length : Int) ≤ 9223372036854775807) :
    Calls Tryd.prog 20 #[.string ⟨s.toArray⟩, .int .i64 (n : Int)] w fun e w' => e = .returned (.string ⟨(s.take n).toArray⟩) ∧ w = w' := by
  have E : Hid ((⟨s.toArray⟩ : ByteArray).extract 0 (min (s.length : Int) (n : Int)).toNat = ⟨(s.take n).toArray⟩) := by
    have e : (min (s.length : Int) (n : Int)).toNat = min s.length n := by omega
    show _ = _
    rw [e]
    apply str_eq
    rw [Lib.extract_data]
    simp [List.take_eq_take_iff]
    try omega
  go_enter Tryd.func20, Tryd.ntmps20
  go_wp2
  go_ret
  exact ⟨congrArg (fun x => Ending.returned (.string x)) E.out, rfl⟩

end Go.Proofs.YtddjbfmohibgbaaDoor

/- The reference's comparison of two patterns, where they are equal. -/
namespace Go.Proofs.YtddjbfmohibgbaaDoor
open Go.RowKit

set_option maxRecDepth 100000 in
set_option maxHeartbeats 2000000 in
theorem same_yes (v1 v2 : Value) (p : List Pc) (w : World) (h1 : Pcs w v1 p) (h2 : Pcs w v2 p) (hl : p.length ≤ 1000) :
    Calls Tryd.prog 23 #[v1, v2] w fun e w' => e = .returned (.bool true) ∧ Only Nob w w' := by
  obtain ⟨a1, cap1, rfl⟩ := h1.form
  obtain ⟨a2, cap2, rfl⟩ := h2.form
  go_enter Tryd.func23, Tryd.ntmps23
  go_wp2_with fail
  go_loopw [5] (fun i wr => ∃ k : Nat, k ≤ p.length ∧ i = .int .i64 (k : Int) ∧ Only Nob w wr) (fun i _ => p.length - (intOf i).toNat)
  case atStart => exact ⟨0, Nat.zero_le _, rfl, Only.refl _ _⟩
  case round =>
    obtain ⟨k, hk, rfl, hon⟩ := hrel
    by_cases hlt : k < p.length
    · have kk : (k : Int) < (p.length : Int) := by omega
      obtain ⟨b1, o1, rfl, -, e0, e1, e2, e3⟩ := (h1.nob hon).at hlt
      obtain ⟨b2, o2, rfl, -, f0, f1, f2, f3⟩ := (h2.nob hon).at hlt
      have HO := Lib.hid hon
      generalize p[k] = x at e0 e1 e2 e3 f0 f1 f2 f3
      obtain ⟨c, l, m, t⟩ := x
      simp only at e0 e1 e2 e3 f0 f1 f2 f3
      clear hon
      go_wp2_with fail
      go_region_held3 (fun w' => (w'.cell? ⟨b1, o1 + k * 4, none⟩ = some (.int .i64 c) ∧ w'.cell? ⟨b1, o1 + k * 4 + 1, none⟩ = some (.int .i64 l) ∧ w'.cell? ⟨b1, o1 + k * 4 + 2, none⟩ = some (.int .i64 m) ∧ w'.cell? ⟨b1, o1 + k * 4 + 3, none⟩ = some (.string ⟨t.toArray⟩)) ∧ (w'.cell? ⟨b2, o2 + k * 4, none⟩ = some (.int .i64 c) ∧ w'.cell? ⟨b2, o2 + k * 4 + 1, none⟩ = some (.int .i64 l) ∧ w'.cell? ⟨b2, o2 + k * 4 + 2, none⟩ = some (.int .i64 m) ∧ w'.cell? ⟨b2, o2 + k * 4 + 3, none⟩ = some (.string ⟨t.toArray⟩)))
        (exact ⟨⟨e0, e1, e2, e3⟩, f0, f1, f2, f3⟩) (fail)
      go_wp2_with fail
      go_roundw
      case rel => exact ⟨k + 1, by omega, by go_num, HO.out.nob (Only.drew _ _)⟩
      case measure => simp [intOf]; omega
    · obtain rfl : k = p.length := by omega
      go_wp2
      go_ret
      exact ⟨rfl, hon⟩

end Go.Proofs.YtddjbfmohibgbaaDoor
