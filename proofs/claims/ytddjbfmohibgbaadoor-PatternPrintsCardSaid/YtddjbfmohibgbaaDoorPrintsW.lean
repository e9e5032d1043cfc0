/- The walk of PatternPrints. -/
import Derived.Test.YtddjbfmohibgbaaDoorCoversW
import Derived.Test.YtddjbfmohibgbaaDoorPlainA
import Derived.Test.YtddjbfmohibgbaaDoorREndA
namespace Go.Proofs.YtddjbfmohibgbaaDoor
open Go.RowKit

theorem parse_print (P : List Pc) (hr : rightB P = true) (w : World) : Calls Tryd.prog 19 #[.string ⟨(printS P).toArray⟩] w fun e w' => ∃ ao cap, e = .returned (.tuple #[.slice ao P.length cap, .int .i64 0, .int .i64 0]) ∧ Pcs w' (.slice ao P.length cap) P ∧ Only Nob w w' := by
  have hp : printS P = writtenS P := by unfold printS; rw [hr]; rfl
  have hl : (writtenS P).length ≤ 100000 := by
    unfold rightB at hr
    simp only [Bool.and_eq_true, decide_eq_true_eq] at hr
    omega
  rw [hp]
  have h := parse_any (writtenS P) w hl
  rw [parse_written hr] at h
  refine h.mono ?_
  rintro e w' ⟨ho, v, rfl, hv, _⟩
  obtain ⟨ao, cap, rfl⟩ := hv.form
  exact ⟨ao, cap, rfl, hv.pcs, ho⟩
theorem parse_none (P : List Pc) (hr : rightB P = false) (w : World) : Calls Tryd.prog 19 #[.string ⟨(printS P).toArray⟩] w fun e w' => ∃ ao cap, e = .returned (.tuple #[.slice ao 0 cap, .int .i64 0, .int .i64 0]) ∧ Only Nob w w' := by
  have hp : printS P = [] := by unfold printS; rw [hr]; rfl
  rw [hp]
  have h := parse_any [] w (by decide)
  rw [show parseL [] = .ok [] from rfl] at h
  refine h.mono ?_
  rintro e w' ⟨ho, v, rfl, hv, _⟩
  obtain ⟨ao, cap, rfl⟩ := hv.form
  exact ⟨ao, cap, rfl, ho⟩

set_option maxRecDepth 100000 in
set_option maxHeartbeats 8000000 in
theorem prints_law (v : Value) (l : List Int) (rv : Value) (raw : List Pc) (w : World) (hl : IntsA w v l) (hr : PcsA w rv raw) (tab : Tab w) : Calls Tryd.prog 3 #[v, rv] w (BoolPost true w) := by
  obtain ⟨ao, cap, rfl⟩ := hl.form
  obtain ⟨ro, rcap, rfl⟩ := hr.1.form
  have HT := Lib.hid tab
  have SN := Lib.hid (sanity_any w tab)
  have HL := Lib.hid hl
  have HR := Lib.hid hr
  clear tab hl hr
  go_enter Tryd.func3, Tryd.ntmps3
  go_wp2_with fail
  refine SN.out.mono ?_
  rintro e w1 ⟨rfl, o1⟩
  have O1 := Lib.hid o1
  clear o1 SN
  go_wp2_with fail
  refine (made_law _ l w1 (HL.out.nob O1.out)).mono ?_
  rintro e w2 ⟨pa, pc, rfl, hp, o2⟩
  have HP := Lib.hid hp
  have O2 := Lib.hid (O1.out.nob o2)
  have HFP := Lib.hid (made_facts l).2.2
  have CUT := Lib.hid (fun s w h => cut_any s 20 w (by decide) h)
  clear o2 hp O1
  generalize madeL l = P at *
  have PR := Lib.hid (print_any _ P w2 HP.out HFP.out (HT.out.other O2.out))
  go_wp2_with fail
  refine PR.out.mono ?_
  rintro e w3 ⟨rfl, o3⟩
  have HP3 := Lib.hid (HP.out.nob o3)
  have O3 := Lib.hid (O2.out.nob o3)
  have PP := Lib.hid (parse_print P)
  have PN := Lib.hid (parse_none P)
  clear o3 HP O2 PR
  obtain ⟨S, hS⟩ : ∃ S, printS P = S := ⟨_, rfl⟩
  rw [hS] at PP PN ⊢
  have HSP := Lib.hid hS
  clear hS
  cases hr : rightB P
  · go_wp2_with fail
    refine (PN.out hr w3).mono ?_
    rintro e w4 ⟨ba, bc, rfl, o4⟩
    have HP4 := Lib.hid (HP3.out.nob o4)
    have O4 := Lib.hid (O3.out.nob o4)
    have HB4 : Hid (Only Nob w4 w4) := Only.refl _ _
    clear o4 HP3 O3 PP PN
    go_wp2_with fail
    go_loopw [11, 12] (fun ov iv wr => CutR w4 raw 6 ov iv wr) (fun _ iv _ => 6 - (intOf iv).toNat)
    case atStart => exact ⟨0, rfl, by omega, Nat.zero_le _, OwnP.nil _, fun i h => (by cases h), Only.refl _ _⟩
    case round =>
      obtain ⟨i, rfl, hi4, hir, hown, hnew, hon⟩ := hrel
      obtain ⟨oo, oc, rfl⟩ := hown.form
      have HOW := Lib.hid hown
      have HN := Lib.hid hnew
      have HO := Lib.hid hon
      clear hown hnew hon
      by_cases hlt : i < raw.length
      · by_cases h4 : i < 6
        · have c1 : (i : Int) < (raw.length : Int) := by omega
          have c2 : (i : Int) < 6 := by omega
          obtain ⟨b, off, rfl, hb, e0, e1, e2, e3⟩ := (HR.out.1.nob (O4.out.nob HO.out)).at hlt
          have hst := Lib.hid (cutP_succ raw i hlt)
          have hxr := HR.out.2.2 _ (List.getElem_mem hlt)
          have hcl := length_cutP raw i
          generalize raw[i] = x at *
          obtain ⟨xc, xl, xm, xt⟩ := x
          simp only at e0 e1 e2 e3 hxr
          have oA : Only Nob wr (wr.alloc (.cells #[.int .i64 xc, .int .i64 xl, .int .i64 xm, .string ⟨(xt.take 20).toArray⟩] 31)) := Only.alloc _ _ _
          have hsz : (wr.alloc (.cells #[.int .i64 xc, .int .i64 xl, .int .i64 xm, .string ⟨(xt.take 20).toArray⟩] 31)).heap.size = wr.heap.size + 1 := by simp
          have z5 := PcRow.new (wr.alloc (.cells #[.int .i64 xc, .int .i64 xl, .int .i64 xm, .string ⟨(xt.take 20).toArray⟩] 31)) ⟨xc, xl, xm, xt.take 20⟩
          rw [hsz] at z5
          have oA2 : Only Nob wr ((wr.alloc (.cells #[.int .i64 xc, .int .i64 xl, .int .i64 xm, .string ⟨(xt.take 20).toArray⟩] 31)).alloc (.cells #[.int .i64 xc, .int .i64 xl, .int .i64 xm, .string ⟨(xt.take 20).toArray⟩] 31)) := oA.nob (Only.alloc _ _ _)
          have hownB := HOW.out.other oA2 (fun _ _ h => h)
          have HOB := Lib.hid (HO.out.nob oA2)
          have hlP : (cutP raw i).length ≤ 10000 := by omega
          clear oA oA2 hsz
          go_wp2_with (first | (go_at_call 20; refine (CUT.out _ _ (by omega)).mono ?_; rintro e w' ⟨rfl, rfl⟩) | (at_builtin; refine wpList_append_pc rfl _ _ rfl _ _ rfl hownB _ _ rfl z5 hlP ?_) | fail)
          intro v' w' ho' on' hb'
          have HZ := Lib.hid (show CutR w4 raw 6 v' (.int .i64 ((i : Int) + 1)) w' from by
            refine ⟨i + 1, congrArg (Value.int .i64) (by omega), h4, hlt, by rw [hst.out]; exact ho', fun k hk => ?_, HOB.out.trans on' (fun k hk hx => ?_)⟩
            · rcases hb' k hk with h | h
              · exact HN.out k h
              · have := HO.out.size
                omega
            · have := HN.out k hx
              omega)
          obtain ⟨o3, oc3, rfl⟩ := ho'.form
          clear ho' on' hb'
          go_wp2_with fail
          go_roundw
          case rel => exact HZ.out
          case measure => simp [intOf]; omega
        · have c1 : (i : Int) < (raw.length : Int) := by omega
          have c2 : ¬ (i : Int) < 6 := by omega
          have HPP := Lib.hid (HP4.out.nob HO.out)
          have HOO := Lib.hid HOW.out.pcs
          have HFO := Lib.hid (cutP_fair HR.out (show i ≤ 10 by omega))
          have HOx := Lib.hid (O4.out.nob HO.out)
          have HBK := Lib.hid (HB4.out.nob HO.out)
          clear HP4 HOW HO O4 HN HB4
          generalize cutP raw i = O at *
          have K0 := Lib.hid (rright_any _ P wr HPP.out HFP.out)
          rw [hr] at K0
          go_wp2_with fail
          refine K0.out.mono ?_
          rintro e x0 ⟨rfl, y0⟩
          have X0 := Lib.hid (HOx.out.nob y0)
          have HPP := Lib.hid (HPP.out.nob y0)
          have HOO := Lib.hid (HOO.out.nob y0)
          have HBK := Lib.hid (HBK.out.nob y0)
          clear y0 K0
          have K1 := Lib.hid (rprint_any _ P x0 HPP.out HFP.out)
          rw [HSP.out] at K1
          go_wp2_with fail
          refine K1.out.mono ?_
          rintro e x1 ⟨rfl, y1⟩
          have X1 := Lib.hid (X0.out.nob y1)
          have HPP := Lib.hid (HPP.out.nob y1)
          have HOO := Lib.hid (HOO.out.nob y1)
          have HBK := Lib.hid (HBK.out.nob y1)
          clear y1 K1
          have X2 := Lib.hid X1.out
          obtain ⟨x2, hx2⟩ : ∃ x2, x2 = x1 := ⟨_, rfl⟩
          subst hx2
          have K3 := Lib.hid (print_any _ O x2 HOO.out HFO.out (HT.out.other X2.out))
          go_wp2_with fail
          refine K3.out.mono ?_
          rintro e x3 ⟨rfl, y3⟩
          have X3 := Lib.hid (X2.out.nob y3)
          have HOO := Lib.hid (HOO.out.nob y3)
          clear y3 K3
          have K4 := Lib.hid (rprint_any _ O x3 HOO.out HFO.out)
          go_wp2_with fail
          refine K4.out.mono ?_
          rintro e x4 ⟨rfl, y4⟩
          have X4 := Lib.hid (X3.out.nob y4)
          clear y4 K4
          go_wp2_with fail
          go_ret
          exact ⟨rfl, X4.out⟩
      · have c1 : ¬ (i : Int) < (raw.length : Int) := by omega
        have HPP := Lib.hid (HP4.out.nob HO.out)
        have HOO := Lib.hid HOW.out.pcs
        have HFO := Lib.hid (cutP_fair HR.out (show i ≤ 10 by omega))
        have HOx := Lib.hid (O4.out.nob HO.out)
        have HBK := Lib.hid (HB4.out.nob HO.out)
        clear HP4 HOW HO O4 HN HB4
        generalize cutP raw i = O at *
        have K0 := Lib.hid (rright_any _ P wr HPP.out HFP.out)
        rw [hr] at K0
        go_wp2_with fail
        refine K0.out.mono ?_
        rintro e x0 ⟨rfl, y0⟩
        have X0 := Lib.hid (HOx.out.nob y0)
        have HPP := Lib.hid (HPP.out.nob y0)
        have HOO := Lib.hid (HOO.out.nob y0)
        have HBK := Lib.hid (HBK.out.nob y0)
        clear y0 K0
        have K1 := Lib.hid (rprint_any _ P x0 HPP.out HFP.out)
        rw [HSP.out] at K1
        go_wp2_with fail
        refine K1.out.mono ?_
        rintro e x1 ⟨rfl, y1⟩
        have X1 := Lib.hid (X0.out.nob y1)
        have HPP := Lib.hid (HPP.out.nob y1)
        have HOO := Lib.hid (HOO.out.nob y1)
        have HBK := Lib.hid (HBK.out.nob y1)
        clear y1 K1
        have X2 := Lib.hid X1.out
        obtain ⟨x2, hx2⟩ : ∃ x2, x2 = x1 := ⟨_, rfl⟩
        subst hx2
        have K3 := Lib.hid (print_any _ O x2 HOO.out HFO.out (HT.out.other X2.out))
        go_wp2_with fail
        refine K3.out.mono ?_
        rintro e x3 ⟨rfl, y3⟩
        have X3 := Lib.hid (X2.out.nob y3)
        have HOO := Lib.hid (HOO.out.nob y3)
        clear y3 K3
        have K4 := Lib.hid (rprint_any _ O x3 HOO.out HFO.out)
        go_wp2_with fail
        refine K4.out.mono ?_
        rintro e x4 ⟨rfl, y4⟩
        have X4 := Lib.hid (X3.out.nob y4)
        clear y4 K4
        go_wp2_with fail
        go_ret
        exact ⟨rfl, X4.out⟩
  · go_wp2_with fail
    refine (PP.out hr w3).mono ?_
    rintro e w4 ⟨ba, bc, rfl, hb, o4⟩
    have HP4 := Lib.hid (HP3.out.nob o4)
    have O4 := Lib.hid (O3.out.nob o4)
    have HB4 : Hid (Pcs w4 (.slice ba P.length bc) P) := hb
    clear o4 hb HP3 O3 PP PN
    go_wp2_with fail
    go_loopw [11, 12] (fun ov iv wr => CutR w4 raw 6 ov iv wr) (fun _ iv _ => 6 - (intOf iv).toNat)
    case atStart => exact ⟨0, rfl, by omega, Nat.zero_le _, OwnP.nil _, fun i h => (by cases h), Only.refl _ _⟩
    case round =>
      obtain ⟨i, rfl, hi4, hir, hown, hnew, hon⟩ := hrel
      obtain ⟨oo, oc, rfl⟩ := hown.form
      have HOW := Lib.hid hown
      have HN := Lib.hid hnew
      have HO := Lib.hid hon
      clear hown hnew hon
      by_cases hlt : i < raw.length
      · by_cases h4 : i < 6
        · have c1 : (i : Int) < (raw.length : Int) := by omega
          have c2 : (i : Int) < 6 := by omega
          obtain ⟨b, off, rfl, hb, e0, e1, e2, e3⟩ := (HR.out.1.nob (O4.out.nob HO.out)).at hlt
          have hst := Lib.hid (cutP_succ raw i hlt)
          have hxr := HR.out.2.2 _ (List.getElem_mem hlt)
          have hcl := length_cutP raw i
          generalize raw[i] = x at *
          obtain ⟨xc, xl, xm, xt⟩ := x
          simp only at e0 e1 e2 e3 hxr
          have oA : Only Nob wr (wr.alloc (.cells #[.int .i64 xc, .int .i64 xl, .int .i64 xm, .string ⟨(xt.take 20).toArray⟩] 31)) := Only.alloc _ _ _
          have hsz : (wr.alloc (.cells #[.int .i64 xc, .int .i64 xl, .int .i64 xm, .string ⟨(xt.take 20).toArray⟩] 31)).heap.size = wr.heap.size + 1 := by simp
          have z5 := PcRow.new (wr.alloc (.cells #[.int .i64 xc, .int .i64 xl, .int .i64 xm, .string ⟨(xt.take 20).toArray⟩] 31)) ⟨xc, xl, xm, xt.take 20⟩
          rw [hsz] at z5
          have oA2 : Only Nob wr ((wr.alloc (.cells #[.int .i64 xc, .int .i64 xl, .int .i64 xm, .string ⟨(xt.take 20).toArray⟩] 31)).alloc (.cells #[.int .i64 xc, .int .i64 xl, .int .i64 xm, .string ⟨(xt.take 20).toArray⟩] 31)) := oA.nob (Only.alloc _ _ _)
          have hownB := HOW.out.other oA2 (fun _ _ h => h)
          have HOB := Lib.hid (HO.out.nob oA2)
          have hlP : (cutP raw i).length ≤ 10000 := by omega
          clear oA oA2 hsz
          go_wp2_with (first | (go_at_call 20; refine (CUT.out _ _ (by omega)).mono ?_; rintro e w' ⟨rfl, rfl⟩) | (at_builtin; refine wpList_append_pc rfl _ _ rfl _ _ rfl hownB _ _ rfl z5 hlP ?_) | fail)
          intro v' w' ho' on' hb'
          have HZ := Lib.hid (show CutR w4 raw 6 v' (.int .i64 ((i : Int) + 1)) w' from by
            refine ⟨i + 1, congrArg (Value.int .i64) (by omega), h4, hlt, by rw [hst.out]; exact ho', fun k hk => ?_, HOB.out.trans on' (fun k hk hx => ?_)⟩
            · rcases hb' k hk with h | h
              · exact HN.out k h
              · have := HO.out.size
                omega
            · have := HN.out k hx
              omega)
          obtain ⟨o3, oc3, rfl⟩ := ho'.form
          clear ho' on' hb'
          go_wp2_with fail
          go_roundw
          case rel => exact HZ.out
          case measure => simp [intOf]; omega
        · have c1 : (i : Int) < (raw.length : Int) := by omega
          have c2 : ¬ (i : Int) < 6 := by omega
          have HPP := Lib.hid (HP4.out.nob HO.out)
          have HOO := Lib.hid HOW.out.pcs
          have HFO := Lib.hid (cutP_fair HR.out (show i ≤ 10 by omega))
          have HOx := Lib.hid (O4.out.nob HO.out)
          have HBK := Lib.hid (HB4.out.nob HO.out)
          clear HP4 HOW HO O4 HN HB4
          generalize cutP raw i = O at *
          have K0 := Lib.hid (rright_any _ P wr HPP.out HFP.out)
          rw [hr] at K0
          go_wp2_with fail
          refine K0.out.mono ?_
          rintro e x0 ⟨rfl, y0⟩
          have X0 := Lib.hid (HOx.out.nob y0)
          have HPP := Lib.hid (HPP.out.nob y0)
          have HOO := Lib.hid (HOO.out.nob y0)
          have HBK := Lib.hid (HBK.out.nob y0)
          clear y0 K0
          have K1 := Lib.hid (rprint_any _ P x0 HPP.out HFP.out)
          rw [HSP.out] at K1
          go_wp2_with fail
          refine K1.out.mono ?_
          rintro e x1 ⟨rfl, y1⟩
          have X1 := Lib.hid (X0.out.nob y1)
          have HPP := Lib.hid (HPP.out.nob y1)
          have HOO := Lib.hid (HOO.out.nob y1)
          have HBK := Lib.hid (HBK.out.nob y1)
          clear y1 K1
          have K2 := Lib.hid (same_yes _ _ P x1 HBK.out HPP.out (Nat.le_trans HFP.out.1 (by omega)))
          go_wp2_with fail
          refine K2.out.mono ?_
          rintro e x2 ⟨rfl, y2⟩
          have X2 := Lib.hid (X1.out.nob y2)
          have HOO := Lib.hid (HOO.out.nob y2)
          clear y2 K2
          have K3 := Lib.hid (print_any _ O x2 HOO.out HFO.out (HT.out.other X2.out))
          go_wp2_with fail
          refine K3.out.mono ?_
          rintro e x3 ⟨rfl, y3⟩
          have X3 := Lib.hid (X2.out.nob y3)
          have HOO := Lib.hid (HOO.out.nob y3)
          clear y3 K3
          have K4 := Lib.hid (rprint_any _ O x3 HOO.out HFO.out)
          go_wp2_with fail
          refine K4.out.mono ?_
          rintro e x4 ⟨rfl, y4⟩
          have X4 := Lib.hid (X3.out.nob y4)
          clear y4 K4
          go_wp2_with fail
          go_ret
          exact ⟨rfl, X4.out⟩
      · have c1 : ¬ (i : Int) < (raw.length : Int) := by omega
        have HPP := Lib.hid (HP4.out.nob HO.out)
        have HOO := Lib.hid HOW.out.pcs
        have HFO := Lib.hid (cutP_fair HR.out (show i ≤ 10 by omega))
        have HOx := Lib.hid (O4.out.nob HO.out)
        have HBK := Lib.hid (HB4.out.nob HO.out)
        clear HP4 HOW HO O4 HN HB4
        generalize cutP raw i = O at *
        have K0 := Lib.hid (rright_any _ P wr HPP.out HFP.out)
        rw [hr] at K0
        go_wp2_with fail
        refine K0.out.mono ?_
        rintro e x0 ⟨rfl, y0⟩
        have X0 := Lib.hid (HOx.out.nob y0)
        have HPP := Lib.hid (HPP.out.nob y0)
        have HOO := Lib.hid (HOO.out.nob y0)
        have HBK := Lib.hid (HBK.out.nob y0)
        clear y0 K0
        have K1 := Lib.hid (rprint_any _ P x0 HPP.out HFP.out)
        rw [HSP.out] at K1
        go_wp2_with fail
        refine K1.out.mono ?_
        rintro e x1 ⟨rfl, y1⟩
        have X1 := Lib.hid (X0.out.nob y1)
        have HPP := Lib.hid (HPP.out.nob y1)
        have HOO := Lib.hid (HOO.out.nob y1)
        have HBK := Lib.hid (HBK.out.nob y1)
        clear y1 K1
        have K2 := Lib.hid (same_yes _ _ P x1 HBK.out HPP.out (Nat.le_trans HFP.out.1 (by omega)))
        go_wp2_with fail
        refine K2.out.mono ?_
        rintro e x2 ⟨rfl, y2⟩
        have X2 := Lib.hid (X1.out.nob y2)
        have HOO := Lib.hid (HOO.out.nob y2)
        clear y2 K2
        have K3 := Lib.hid (print_any _ O x2 HOO.out HFO.out (HT.out.other X2.out))
        go_wp2_with fail
        refine K3.out.mono ?_
        rintro e x3 ⟨rfl, y3⟩
        have X3 := Lib.hid (X2.out.nob y3)
        have HOO := Lib.hid (HOO.out.nob y3)
        clear y3 K3
        have K4 := Lib.hid (rprint_any _ O x3 HOO.out HFO.out)
        go_wp2_with fail
        refine K4.out.mono ?_
        rintro e x4 ⟨rfl, y4⟩
        have X4 := Lib.hid (X3.out.nob y4)
        clear y4 K4
        go_wp2_with fail
        go_ret
        exact ⟨rfl, X4.out⟩

end Go.Proofs.YtddjbfmohibgbaaDoor
