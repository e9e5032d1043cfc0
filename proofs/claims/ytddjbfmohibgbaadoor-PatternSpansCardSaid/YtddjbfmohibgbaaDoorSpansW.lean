/- The walk of PatternSpans. -/
import Derived.Test.YtddjbfmohibgbaaDoorSamplesW
import Derived.Test.YtddjbfmohibgbaaDoorFndA
import Derived.Test.YtddjbfmohibgbaaDoorREndA
namespace Go.Proofs.YtddjbfmohibgbaaDoor
open Go.RowKit

def SpRel (P : List Pc) (S : List UInt8) (L : List (Nat × Nat)) (w : World) (lv kv : Value) (wr : World) : Prop :=
  ∃ (j last : Nat), kv = .int .i64 ((j : Int) + 1) ∧ lv = .int .i64 (last : Int) ∧ j ≤ L.length + 1 ∧ last ≤ S.length ∧ (j ≤ L.length → SpansM P S last (L.drop j)) ∧ Only Nob w wr

set_option maxRecDepth 100000 in
set_option maxHeartbeats 16000000 in
theorem spans_law (v : Value) (l : List Int) (s : List UInt8) (w : World) (hl : IntsA w v l) (hs : (s.length : Int) ≤ 9223372036854775807) (tab : Tab w) : Calls Tryd.prog 10 #[v, .string ⟨s.toArray⟩] w (BoolPost true w) := by
  obtain ⟨ao, cap, rfl⟩ := hl.form
  have HT := Lib.hid tab
  have SN := Lib.hid (sanity_any w tab)
  have HL := Lib.hid hl
  have CUT := Lib.hid (fun w => cut_any s 30 w (by decide) hs)
  have hS30 : (s.take 30).length ≤ 30 := by simp; omega
  clear tab hl hs
  generalize s.take 30 = S at *
  go_enter Tryd.func10, Tryd.ntmps10
  go_wp2_with fail
  refine SN.out.mono ?_
  rintro e w1 ⟨rfl, o1⟩
  have O1 := Lib.hid o1
  clear o1 SN
  go_wp2_with fail
  refine (made_law _ l w1 (HL.out.nob O1.out)).mono ?_
  rintro e w2 ⟨pa, pc, rfl, hp, o2⟩
  have HP2 := Lib.hid hp
  have O2 := Lib.hid (O1.out.nob o2)
  have HFP := Lib.hid (made_facts l).2.2
  clear o2 hp O1
  generalize madeL l = P at *
  have HSP := Lib.hid (finds_spans P S)
  have CN := Lib.hid (count_finds _ P S w2 HP2.out HFP.out (HT.out.other O2.out) (by omega))
  have FD := Lib.hid (fun n w' (o : Only Nob w2 w') => find_any _ P S n w' (HP2.out.nob o) HFP.out (HT.out.other (O2.out.nob o)) (by omega))
  have HTX := Lib.hid (fun w => rtext_any ⟨S.toArray⟩ w (show S.length ≤ _ by omega))
  have e1 : (⟨S.toArray⟩ : ByteArray).data.toList = S := rfl
  rw [e1] at HTX
  clear e1
  generalize findsL P S = L at *
  go_wp2_with (first | (go_at_call 20; refine (CUT.out _).mono ?_; rintro e w' ⟨rfl, rfl⟩) | fail)
  refine CN.out.mono ?_
  rintro e w3 ⟨rfl, o3⟩
  have O3 := Lib.hid (O2.out.nob o3)
  have HB0 := Lib.hid (And.intro O2.out o3)
  have hLS := HSP.out.2
  have c1 : ¬ (L.length : Int) < 0 := by omega
  have c2 : ¬ (S.length : Int) < (L.length : Int) := by omega
  have c3 : ¬ S.length < L.length := by omega
  have c4 : decide ((L.length : Int) < 0) = false := by simp
  have c5 : decide (S.length < L.length) = false := by simp; omega
  have HW3 : Hid (Only Nob w2 w3) := o3
  have HP : Hid (∀ w', Only Nob w3 w' → Pcs w' (.slice pa P.length pc) P) := fun w' o => HP2.out.nob (o3.nob o)
  have HT3 := Lib.hid (HT.out.other O3.out)
  have FD3 := Lib.hid (fun n w' (o : Only Nob w3 w') => FD.out n w' (HW3.out.nob o))
  have HSP0 := Lib.hid (HSP.out.1)
  clear o3 CN CUT FD HW3 HT HSP HP2 O2 HB0
  have HBASE := Lib.hid O3.out
  clear O3 HL
  have HT := HT3
  clear HT3
  go_wp2_with fail
  go_loopw [7, 9] (fun lv kv wr => SpRel P S L w3 lv kv wr) (fun _ kv _ => L.length + 2 - (intOf kv).toNat)
  case atStart => exact ⟨0, 0, rfl, rfl, by omega, by omega, fun _ => HSP0.out, Only.refl _ _⟩
  case round =>
    obtain ⟨j, last, rfl, rfl, hj, hlast, hsp, hon⟩ := hrel
    have hwn : IntKind.i64.wrap ((L.length : Int) + 1) = (L.length : Int) + 1 := IntWalk.i64_in _ (by omega)
    have HO := Lib.hid hon
    have HS := Lib.hid hsp
    clear hon hsp
    by_cases hjn : j ≤ L.length
    · have k1 : (j : Int) + 1 ≤ (L.length : Int) + 1 := by omega
      have hwk : IntKind.i64.wrap ((j : Int) + 1 + 1) = (j : Int) + 1 + 1 := IntWalk.i64_in _ (by omega)
      have F := Lib.hid (FD3.out ((j : Int) + 1) wr HO.out)
      by_cases hj2 : j < L.length
      · have k2 : (j : Int) + 1 ≤ (L.length : Int) := by omega
        have hdr : L.drop j = L[j] :: L.drop (j + 1) := List.drop_eq_getElem_cons hj2
        have hfr : findR L ((j : Int) + 1) = (L[j].1, L[j].2, true) := by
          unfold findR
          rw [if_pos (by omega), show ((j : Int) + 1).toNat - 1 = j by omega]
          simp [List.getD_eq_getElem?_getD, hj2]
        have hsm := HS.out hjn
        rw [hdr] at hsm
        rw [hfr] at F
        unfold findV at F
        generalize L[j] = ab at *
        obtain ⟨a, b⟩ := ab
        obtain ⟨g1, g2, g3, g4, g5, g6, g7⟩ := hsm
        simp only at F
        have HLA : Hid (last ≤ a) := g1
        have HAL : Hid (a ≤ S.length) := by show _ ≤ _; omega
        have HBL : Hid (b ≤ S.length) := g3
        have HAB : Hid (a < b) := g2
        have FB : Hid (textB S = true → ∀ i j, last ≤ i → i < a → i < j → j ≤ S.length → matchB P (sub S i j) = false) := fun _ => g6
        have FL : Hid (∀ j, b < j → j ≤ S.length → matchB P (sub S a j) = false) := g5
        have HRS : Hid (SpansM P S b (L.drop (j + 1))) := g7
        have M0 := Lib.hid (fun w' (o : Only Nob w3 w') => matches_any _ P (sub S a b) w' (HP.out w' o) HFP.out (HT.out.other o) (by have h := length_sub (s := S) (k := a) (e := b) (by omega) g3; omega))
        rw [g4] at M0
        have sl0 := fun w => mid_slice S a b (by omega) g3 w
        unfold sub at M0
        have d1 : ¬ (a : Int) < (last : Int) := by omega
        have d2 : ¬ (b : Int) < (a : Int) := by omega
        have d3 : ¬ (S.length : Int) < (b : Int) := by omega
        have d4 : ¬ (a : Int) = (b : Int) := by omega
        have d5 : ¬ a = b := by omega
        have n1 : ¬ a < last := by omega
        have n2 : ¬ b < a := by omega
        have n3 : ¬ S.length < b := by omega
        have m1 : decide (a < last) = false := by simp; omega
        have m2 : decide (b < a) = false := by simp; omega
        have m3 : decide (S.length < b) = false := by simp; omega
        have d6 : ((a : Int) == (b : Int)) = false := by simp; omega
        have d7 : (a == b) = false := by simp; omega
        clear g4 g5 g6 g7 hdr hfr HS
        generalize (S.drop a).take (b - a) = U0 at *
        go_wp2_with fail
        refine F.out.mono ?_
        rintro e w5 ⟨rfl, o5⟩
        have Y0 := Lib.hid (HO.out.nob o5)
        clear o5 F
        go_wp2_with fail
        refine (M0.out _ Y0.out).mono ?_
        rintro e w6 ⟨rfl, o6⟩
        have Y1 := Lib.hid (Y0.out.nob o6)
        clear o6 M0 sl0 Y0
        go_wp2_with fail
        go_loopw [13] (fun iv wr => ∃ i : Nat, iv = .int .i64 (i : Int) ∧ last ≤ i ∧ i ≤ a ∧ Only Nob w3 wr) (fun iv _ => a - (intOf iv).toNat)
        case atStart => exact ⟨last, rfl, Nat.le_refl _, HLA.out, Y1.out⟩
        case round =>
          obtain ⟨i, rfl, hi1, hi2, hon⟩ := hrel
          have HY := Lib.hid hon
          clear hon
          by_cases hia : i < a
          · have hia' : (i : Int) < (a : Int) := by omega
            obtain ⟨i1, hi1e⟩ : ∃ i1, i1 = i + 1 := ⟨_, rfl⟩
            have hwi : IntKind.i64.wrap ((i : Int) + 1) = (i1 : Int) := by have := HAL.out; rw [IntWalk.i64_in _ (by omega)]; omega
            have HI1 := Lib.hid hi1e
            clear hi1e
            go_wp2_with fail
            go_loopw [14] (fun jv wr => ∃ j2 : Nat, jv = .int .i64 (j2 : Int) ∧ i1 ≤ j2 ∧ j2 ≤ S.length + 1 ∧ Only Nob w3 wr) (fun jv _ => S.length + 1 - (intOf jv).toNat)
            case atStart => exact ⟨i1, rfl, Nat.le_refl _, by have := HAL.out; have := HI1.out; omega, HY.out⟩
            case round =>
              obtain ⟨j2, rfl, hj1, hj2, hon⟩ := hrel
              have HZ := Lib.hid hon
              clear hon
              by_cases hjs : j2 ≤ S.length
              · have hjs' : (j2 : Int) ≤ (S.length : Int) := by omega
                have TX := Lib.hid (HTX.out)
                cases hx : textB S
                · rw [hx] at TX
                  clear hx
                  go_wp2_with (first | (go_at_call 36; refine (TX.out _).mono ?_; rintro e w' ⟨rfl, rfl⟩) | fail)
                  go_roundw
                  case rel => exact ⟨i1, congrArg (Value.int .i64) (by have := HI1.out; omega), by have := HI1.out; omega, by have := HI1.out; omega, HZ.out⟩
                  case measure => have := HI1.out; simp [intOf]; omega
                · rw [hx] at TX
                  have hnm := FB.out hx i j2 hi1 hia (by have := HI1.out; omega) hjs
                  have M := Lib.hid (fun w' (o : Only Nob w3 w') => matches_any _ P (sub S i j2) w' (HP.out w' o) HFP.out (HT.out.other o) (by have h := length_sub (s := S) (k := i) (e := j2) (by have := HI1.out; omega) hjs; omega))
                  rw [hnm] at M
                  have sl := fun w => mid_slice S i j2 (by have := HI1.out; omega) hjs w
                  unfold sub at M
                  clear hx hnm
                  generalize (S.drop i).take (j2 - i) = U at *
                  have hwj : IntKind.i64.wrap ((j2 : Int) + 1) = ((j2 + 1 : Nat) : Int) := by rw [IntWalk.i64_in _ (by omega)]; omega
                  go_wp2_with (first | (go_at_call 36; refine (TX.out _).mono ?_; rintro e w' ⟨rfl, rfl⟩) | fail)
                  refine (M.out _ HZ.out).mono ?_
                  rintro e w7 ⟨rfl, o7⟩
                  have H7 := Lib.hid (HZ.out.nob o7)
                  clear o7
                  go_wp2_with fail
                  go_roundw
                  case rel => exact ⟨j2 + 1, congrArg (Value.int .i64) (by omega), by omega, by omega, H7.out⟩
                  case measure => simp [intOf]; omega
              · have hjs' : ¬ (j2 : Int) ≤ (S.length : Int) := by omega
                go_wp2_with fail
                go_roundw
                case rel => exact ⟨i1, congrArg (Value.int .i64) (by have := HI1.out; omega), by have := HI1.out; omega, by have := HI1.out; omega, HZ.out⟩
                case measure => have := HI1.out; simp [intOf]; omega
          · have hie : ¬ (i : Int) < (a : Int) := by omega
            have hwb : IntKind.i64.wrap ((b : Int) + 1) = ((b + 1 : Nat) : Int) := by have := HBL.out; rw [IntWalk.i64_in _ (by omega)]; omega
            go_wp2_with fail
            go_loopw [15] (fun jv wr => ∃ j2 : Nat, jv = .int .i64 (j2 : Int) ∧ b + 1 ≤ j2 ∧ j2 ≤ S.length + 1 ∧ Only Nob w3 wr) (fun jv _ => S.length + 1 - (intOf jv).toNat)
            case atStart => exact ⟨b + 1, congrArg (Value.int .i64) (by omega), Nat.le_refl _, by have := HBL.out; omega, HY.out⟩
            case round =>
              obtain ⟨j2, rfl, hj1, hj2, hon⟩ := hrel
              have HZ := Lib.hid hon
              clear hon
              by_cases hjs : j2 ≤ S.length
              · have hjs' : (j2 : Int) ≤ (S.length : Int) := by omega
                have hnm := FL.out j2 (by omega) hjs
                have M := Lib.hid (fun w' (o : Only Nob w3 w') => matches_any _ P (sub S a j2) w' (HP.out w' o) HFP.out (HT.out.other o) (by have h := length_sub (s := S) (k := a) (e := j2) (by have := HAB.out; omega) hjs; omega))
                rw [hnm] at M
                have sl := fun w => mid_slice S a j2 (by have := HAB.out; omega) hjs w
                unfold sub at M
                clear hnm
                generalize (S.drop a).take (j2 - a) = U at *
                have hwj : IntKind.i64.wrap ((j2 : Int) + 1) = ((j2 + 1 : Nat) : Int) := by rw [IntWalk.i64_in _ (by omega)]; omega
                go_wp2_with fail
                refine (M.out _ HZ.out).mono ?_
                rintro e w7 ⟨rfl, o7⟩
                have H7 := Lib.hid (HZ.out.nob o7)
                clear o7
                go_wp2_with fail
                go_roundw
                case rel => exact ⟨j2 + 1, congrArg (Value.int .i64) (by omega), by omega, by omega, H7.out⟩
                case measure => simp [intOf]; omega
              · have hjs' : ¬ (j2 : Int) ≤ (S.length : Int) := by omega
                go_wp2_with fail
                go_roundw
                case rel => exact ⟨j + 1, b, congrArg (Value.int .i64) (by omega), rfl, by omega, HBL.out, fun _ => HRS.out, HZ.out⟩
                case measure => simp [intOf]; omega
      · obtain rfl : j = L.length := by omega
        have k2 : ¬ (L.length : Int) + 1 ≤ (L.length : Int) := by omega
        have hfr : findR L ((L.length : Int) + 1) = (0, 0, false) := by
          unfold findR
          rw [if_neg (by omega)]
        have hsm := HS.out hjn
        rw [List.drop_length] at hsm
        rw [hfr] at F
        unfold findV at F
        simp only at F
        have HLA : Hid (last ≤ S.length) := hlast
        have HAL : Hid (S.length ≤ S.length) := Nat.le_refl _
        have HBL : Hid (S.length ≤ S.length) := Nat.le_refl _
        have FB : Hid (textB S = true → ∀ i j, last ≤ i → i < S.length → i < j → j ≤ S.length → matchB P (sub S i j) = false) := fun h i j h1 _ h2 h3 => hsm h i j h1 h2 h3
        have d1 : ¬ (S.length : Int) < (last : Int) := by omega
        have n1 : ¬ S.length < last := by omega
        have m1 : decide (S.length < last) = false := by simp; omega
        clear hfr HS hsm
        go_wp2_with fail
        refine F.out.mono ?_
        rintro e w5 ⟨rfl, o5⟩
        have Y1 := Lib.hid (HO.out.nob o5)
        clear o5 F
        go_wp2_with fail
        go_loopw [13] (fun iv wr => ∃ i : Nat, iv = .int .i64 (i : Int) ∧ last ≤ i ∧ i ≤ S.length ∧ Only Nob w3 wr) (fun iv _ => S.length - (intOf iv).toNat)
        case atStart => exact ⟨last, rfl, Nat.le_refl _, HLA.out, Y1.out⟩
        case round =>
          obtain ⟨i, rfl, hi1, hi2, hon⟩ := hrel
          have HY := Lib.hid hon
          clear hon
          by_cases hia : i < S.length
          · have hia' : (i : Int) < (S.length : Int) := by omega
            obtain ⟨i1, hi1e⟩ : ∃ i1, i1 = i + 1 := ⟨_, rfl⟩
            have hwi : IntKind.i64.wrap ((i : Int) + 1) = (i1 : Int) := by have := HAL.out; rw [IntWalk.i64_in _ (by omega)]; omega
            have HI1 := Lib.hid hi1e
            clear hi1e
            go_wp2_with fail
            go_loopw [14] (fun jv wr => ∃ j2 : Nat, jv = .int .i64 (j2 : Int) ∧ i1 ≤ j2 ∧ j2 ≤ S.length + 1 ∧ Only Nob w3 wr) (fun jv _ => S.length + 1 - (intOf jv).toNat)
            case atStart => exact ⟨i1, rfl, Nat.le_refl _, by have := HAL.out; have := HI1.out; omega, HY.out⟩
            case round =>
              obtain ⟨j2, rfl, hj1, hj2, hon⟩ := hrel
              have HZ := Lib.hid hon
              clear hon
              by_cases hjs : j2 ≤ S.length
              · have hjs' : (j2 : Int) ≤ (S.length : Int) := by omega
                have TX := Lib.hid (HTX.out)
                cases hx : textB S
                · rw [hx] at TX
                  clear hx
                  go_wp2_with (first | (go_at_call 36; refine (TX.out _).mono ?_; rintro e w' ⟨rfl, rfl⟩) | fail)
                  go_roundw
                  case rel => exact ⟨i1, congrArg (Value.int .i64) (by have := HI1.out; omega), by have := HI1.out; omega, by have := HI1.out; omega, HZ.out⟩
                  case measure => have := HI1.out; simp [intOf]; omega
                · rw [hx] at TX
                  have hnm := FB.out hx i j2 hi1 hia (by have := HI1.out; omega) hjs
                  have M := Lib.hid (fun w' (o : Only Nob w3 w') => matches_any _ P (sub S i j2) w' (HP.out w' o) HFP.out (HT.out.other o) (by have h := length_sub (s := S) (k := i) (e := j2) (by have := HI1.out; omega) hjs; omega))
                  rw [hnm] at M
                  have sl := fun w => mid_slice S i j2 (by have := HI1.out; omega) hjs w
                  unfold sub at M
                  clear hx hnm
                  generalize (S.drop i).take (j2 - i) = U at *
                  have hwj : IntKind.i64.wrap ((j2 : Int) + 1) = ((j2 + 1 : Nat) : Int) := by rw [IntWalk.i64_in _ (by omega)]; omega
                  go_wp2_with (first | (go_at_call 36; refine (TX.out _).mono ?_; rintro e w' ⟨rfl, rfl⟩) | fail)
                  refine (M.out _ HZ.out).mono ?_
                  rintro e w7 ⟨rfl, o7⟩
                  have H7 := Lib.hid (HZ.out.nob o7)
                  clear o7
                  go_wp2_with fail
                  go_roundw
                  case rel => exact ⟨j2 + 1, congrArg (Value.int .i64) (by omega), by omega, by omega, H7.out⟩
                  case measure => simp [intOf]; omega
              · have hjs' : ¬ (j2 : Int) ≤ (S.length : Int) := by omega
                go_wp2_with fail
                go_roundw
                case rel => exact ⟨i1, congrArg (Value.int .i64) (by have := HI1.out; omega), by have := HI1.out; omega, by have := HI1.out; omega, HZ.out⟩
                case measure => have := HI1.out; simp [intOf]; omega
          · have hie : ¬ (i : Int) < (S.length : Int) := by omega
            have hwb : IntKind.i64.wrap ((S.length : Int) + 1) = ((S.length + 1 : Nat) : Int) := by have := HBL.out; rw [IntWalk.i64_in _ (by omega)]; omega
            go_wp2_with fail
            go_loopw [15] (fun jv wr => ∃ j2 : Nat, jv = .int .i64 (j2 : Int) ∧ j2 = S.length + 1 ∧ Only Nob w3 wr) (fun jv _ => S.length + 1 - (intOf jv).toNat)
            case atStart => exact ⟨S.length + 1, congrArg (Value.int .i64) (by omega), by omega, HY.out⟩
            case round =>
              obtain ⟨j2, rfl, hj1, hon⟩ := hrel
              have HZ := Lib.hid hon
              clear hon
              have hjs' : ¬ (j2 : Int) ≤ (S.length : Int) := by omega
              go_wp2_with fail
              go_roundw
              case rel => exact ⟨L.length + 1, S.length, congrArg (Value.int .i64) (by omega), rfl, by omega, HBL.out, fun h => by omega, HZ.out⟩
              case measure => simp [intOf]; omega
    · have k1 : ¬ (j : Int) + 1 ≤ (L.length : Int) + 1 := by omega
      go_wp2_with fail
      go_ret
      exact ⟨rfl, HBASE.out.nob HO.out⟩

end Go.Proofs.YtddjbfmohibgbaaDoor
