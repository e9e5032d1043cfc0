/- Chapter 05: the reference: written forms, right patterns, Print. -/
import Derived.Test.YtddjbfmohibgbaaDoorWrA

/- The reference's written form. -/
namespace Go.Proofs.YtddjbfmohibgbaaDoor
open Go.RowKit

theorem str_val {x : ByteArray} {l : List UInt8} (h : x.data.toList = l) : Value.string x = .string ⟨l.toArray⟩ := by
  rw [← h]

set_option maxHeartbeats 1000000 in
theorem rspecial_any (c : UInt8) (w : World) : Calls Tryd.prog 108 #[.int .u8 c.toNat] w fun e w' => e = .returned (.bool (special c)) ∧ w = w' := by
  have H : Hid (special c = (decide (c.toNat = 92) || decide (c.toNat = 123) || decide (c.toNat = 125) || decide (c.toNat = 43) || decide (c.toNat = 42))) := by
    show special c = _
    unfold special
    have f : ∀ a : UInt8, (c == a) = decide (c.toNat = a.toNat) := fun a => by
      rw [Bool.eq_iff_iff]; simp [← UInt8.toNat_inj]
    rw [f, f, f, f, f]; rfl
  have hc := c.toNat_lt
  generalize c.toNat = n at H hc ⊢
  go_enter Tryd.func108, Tryd.ntmps108
  go_wp2
  all_goals
    go_ret
    refine ⟨ret_bool ?_, rfl⟩
    rw [H.out, Bool.eq_iff_iff]
    simp at *
    try omega

theorem digit_slice (j : Nat) (hj : j < 10) (w : World) : (Instr.slice 9 (.string ⟨#[48, 49, 50, 51, 52, 53, 54, 55, 56, 57]⟩) (some (.int .i64 (j : Int))) (some (.int .i64 ((j : Int) + 1))) none).run Tryd.prog w = .ok (.string ⟨#[dig j]⟩) w := by
  have h := run_slice_string (P := Tryd.prog) (w := w) 9 ⟨#[48, 49, 50, 51, 52, 53, 54, 55, 56, 57]⟩ .i64 .i64 (j : Int) ((j : Int) + 1) Tryd.underlying9 (by omega) (by omega) (by show ((j : Int) + 1) ≤ 10; omega)
  rw [h]
  have hc : j = 0 ∨ j = 1 ∨ j = 2 ∨ j = 3 ∨ j = 4 ∨ j = 5 ∨ j = 6 ∨ j = 7 ∨ j = 8 ∨ j = 9 := by omega
  rcases hc with rfl | rfl | rfl | rfl | rfl | rfl | rfl | rfl | rfl | rfl <;> rfl

theorem dec1 (n : Nat) (h : n < 10) (w : World) : Calls Tryd.prog 109 #[.int .i64 n] w (StrPost (dec n) w) := by
  have e : dec n = [dig n] := by unfold dec; rw [if_pos h]
  rw [e]
  have sl := digit_slice n h
  clear e
  go_enter Tryd.func109, Tryd.ntmps109
  go_wp2
  go_ret
  exact ⟨rfl, Only.refl _ _⟩

theorem dec_next (n q : Nat) (hq : q = n / 10) (h1 : 10 ≤ n) (h2 : n < 1000) (D : ∀ w, Calls Tryd.prog 109 #[.int .i64 q] w (StrPost (dec q) w)) (w : World) :
    Calls Tryd.prog 109 #[.int .i64 n] w (StrPost (dec n) w) := by
  obtain ⟨r, hr⟩ : ∃ r : Nat, r = n % 10 := ⟨_, rfl⟩
  have e : dec n = dec q ++ [dig r] := by
    unfold dec
    subst hq hr
    by_cases h3 : n < 100
    · rw [if_neg (by omega), if_pos h3, if_pos (by omega)]; rfl
    · rw [if_neg (by omega), if_neg h3, if_neg (by omega), if_pos (by omega)]
      have e1 : n / 10 / 10 = n / 100 := by omega
      rw [e1]; rfl
  have E := Lib.hid e
  have sl := digit_slice r (by omega)
  have w1 : ((n : Int)).tdiv 10 = (q : Int) := by rw [Int.tdiv_eq_ediv_of_nonneg (by omega)]; omega
  have w2 : ((n : Int)).tmod 10 = (r : Int) := by rw [Int.tmod_eq_emod_of_nonneg (by omega)]; omega
  have w3 : ((n : Int)) / 10 = (q : Int) := by omega
  have w4 : ((n : Int)) % 10 = (r : Int) := by omega
  have w5 : IntKind.i64.wrap ((q : Nat) : Int) = (q : Int) := IntWalk.i64_in _ (by omega)
  have w6 : IntKind.i64.wrap ((r : Int) + 1) = (r : Int) + 1 := IntWalk.i64_in _ (by omega)
  have D' := Lib.hid D
  obtain ⟨Q, hQ⟩ : ∃ Q : ByteArray, Q = ⟨(dec q).toArray⟩ := ⟨_, rfl⟩
  have hl : Q.size ≤ 3 := by rw [hQ]; exact length_dec q
  have HE := Lib.hid (show (Q ++ ⟨#[dig r]⟩ : ByteArray).data.toList = dec n by rw [hQ, e]; simp [ByteArray.data_append])
  unfold StrPost at D'
  simp only [← hQ] at D'
  have s1 : ∀ w, (Op.stringOp .add Q ⟨#[dig r]⟩).run Tryd.prog w = .ok (.string (Q ++ ⟨#[dig r]⟩)) w := fun w => run_string_add_sum w _ _ (by simp only [sz1]; omega)
  clear hq hr D e E hQ
  go_enter Tryd.func109, Tryd.ntmps109
  go_wp2_with fail
  go_region_held3 (fun _ => True) (trivial)
    (first
      | (go_at_call 109; (with_reducible refine (D'.out _).mono ?_); rintro e w2 ⟨rfl, o2⟩)
      | fail)
  go_wp2
  go_ret
  exact ⟨ret_str HE.out, (Only.drew Nob _).nob o2⟩

theorem rdec_any (n : Nat) (h : n < 1000) (w : World) : Calls Tryd.prog 109 #[.int .i64 n] w (StrPost (dec n) w) := by
  rcases Nat.lt_or_ge n 10 with h1 | h1
  · exact dec1 n h1 w
  · refine dec_next n (n / 10) rfl h1 h (fun w => ?_) w
    rcases Nat.lt_or_ge (n / 10) 10 with h2 | h2
    · exact dec1 _ h2 w
    · exact dec_next (n / 10) (n / 10 / 10) rfl h2 (by omega) (fun w => dec1 _ (by omega) w) w

end Go.Proofs.YtddjbfmohibgbaaDoor

/- The reference's written form of pieces that are right. -/
namespace Go.Proofs.YtddjbfmohibgbaaDoor
open Go.RowKit

theorem toList_mk (l : List UInt8) : (⟨l.toArray⟩ : ByteArray).data.toList = l := rfl

/-- The string of the reference's loop. -/
def RWRel (w : World) (p : List Pc) (sv iv : Value) (wr : World) : Prop :=
  ∃ k : Nat, k ≤ p.length ∧ iv = .int .i64 k ∧ sv = .string ⟨(writtenS (p.take k)).toArray⟩ ∧ Only Nob w wr

theorem one_extract (t : List UInt8) (j : Nat) (h : j < t.length) : (⟨t.toArray⟩ : ByteArray).extract j (j + 1) = ⟨#[t[j]]⟩ := by
  apply str_eq
  rw [ByteArray.data_extract]
  simp only [Array.toList_extract, List.extract_eq_take_drop]
  show (t.drop j).take (j + 1 - j) = [t[j]]
  rw [List.drop_eq_getElem_cons h, show j + 1 - j = 1 by omega]
  rfl

theorem one_slice (t : List UInt8) (j : Nat) (h : j < t.length) (w : World) : (Instr.slice 9 (.string ⟨t.toArray⟩) (some (.int .i64 (j : Int))) (some (.int .i64 ((j : Int) + 1))) none).run Tryd.prog w = .ok (.string ⟨#[t[j]]⟩) w := by
  have hs : (⟨t.toArray⟩ : ByteArray).size = t.length := rfl
  have h1 := run_slice_string (P := Tryd.prog) (w := w) 9 ⟨t.toArray⟩ .i64 .i64 (j : Int) ((j : Int) + 1) Tryd.underlying9 (by omega) (by omega) (by rw [hs]; omega)
  have e1 : ((j : Int) + 1).toNat = j + 1 := by omega
  rw [e1, Int.toNat_natCast, one_extract t j h] at h1
  exact h1

set_option maxRecDepth 100000 in
set_option maxHeartbeats 4000000 in
theorem rwritten_any (v : Value) (p : List Pc) (w : World) (hp : Pcs w v p) (hg : Good p) : Calls Tryd.prog 62 #[v] w (StrPost (writtenS p) w) := by
  obtain ⟨ao, cap, rfl⟩ := hp.form
  have hlen := hg.1
  have HB : RWRel w p (.string ⟨#[]⟩) (.int .i64 (0 : Nat)) w := ⟨0, Nat.zero_le _, rfl, rfl, Only.refl _ _⟩
  go_enter Tryd.func62, Tryd.ntmps62
  go_wp2_with fail
  go_loopw [3, 4] (fun s i wr => RWRel w p s i wr) (fun _ i _ => p.length - (intOf i).toNat)
  case atStart => exact HB
  case round =>
    obtain ⟨k, hk, rfl, rfl, hon⟩ := hrel
    clear HB
    by_cases hlt : k < p.length
    · obtain ⟨hx1, hx2⟩ := hg.2 _ (List.getElem_mem hlt)
      have hws := Lib.hid (show writtenS (p.take (k + 1)) = writtenS (p.take k) ++ pieceS p[k] by rw [List.take_succ_eq_append_getElem hlt, writtenS_snoc])
      have hwl := writtenS_len 1000 (p.take k) (fun y hy => (hg.2 y (List.mem_of_mem_take hy)).2)
      have hwl2 : (p.take k).length ≤ 60 := by rw [List.length_take]; omega
      have hwl3 : (writtenS (p.take k)).length ≤ 200000 := Nat.le_trans hwl (by omega)
      obtain ⟨b, off, rfl, hb, e0, e1, e2, e3⟩ := (hp.nob hon).at hlt
      generalize p[k] = x at hx1 hx2 hws e0 e1 e2 e3
      generalize writtenS (p.take k) = L at hws hwl3 ⊢
      obtain ⟨c, l, m, t⟩ := x
      simp only at e0 e1 e2 e3
      have kk : (k : Int) < (p.length : Int) := by omega
      have HO := Lib.hid hon
      clear hwl hwl2
      obtain ⟨SB, hSB⟩ : ∃ SB : ByteArray, SB = ⟨L.toArray⟩ := ⟨_, rfl⟩
      have hsz : SB.size ≤ 200000 := by rw [hSB]; exact hwl3
      rw [← hSB]
      by_cases hr : runB ⟨c, l, m, t⟩ = true
      · obtain ⟨q1, q2, q3, q4, q5, q6, q7⟩ := runB_iff.1 hr
        simp only at q1 q2 q3 q4 q5 q6 q7
        subst q7
        obtain ⟨j, rfl⟩ : ∃ j : Nat, c = ((j : Nat) : Int) + 1 := ⟨(c - 1).toNat, by omega⟩
        have hj : j < 7 := by omega
        obtain ⟨a, rfl⟩ := Int.eq_ofNat_of_zero_le q3
        obtain ⟨b', rfl⟩ := Int.eq_ofNat_of_zero_le (show 0 ≤ m by omega)
        have sl := names_slice j hj
        obtain ⟨NB, hNB⟩ : ∃ NB : ByteArray, NB = ⟨#[names.getD j 0]⟩ := ⟨_, rfl⟩
        have n1 : NB.size = 1 := by rw [hNB]; rfl
        rw [← hNB] at sl
        have c0 : ((j : Int) + 1 == 0) = false := by simp; omega
        have HP := Lib.hid (show writtenS (p.take (k + 1)) = (SB ++ ⟨#[92]⟩ ++ NB : ByteArray).data.toList ++ countS ⟨(j : Int) + 1, (a : Nat), (b' : Nat), []⟩ by
          rw [hws.out, hSB, hNB]
          unfold pieceS
          rw [if_pos (by show (0 : Int) < (j : Int) + 1; omega)]
          simp [ByteArray.data_append])
        clear hr hws hSB hNB
        have HC := Lib.hid (show ∀ X : ByteArray, X.data.toList = countS ⟨(j : Int) + 1, (a : Nat), (b' : Nat), []⟩ → Value.string (SB ++ ⟨#[92]⟩ ++ NB ++ X) = .string ⟨(writtenS (p.take (k + 1))).toArray⟩ from fun X hX => str_val (by rw [HP.out, ByteArray.data_append, Array.toList_append, hX]))
        by_cases k1 : a = 1 ∧ b' = 1
        · obtain ⟨rfl, rfl⟩ := k1
          have HV : Hid (Value.string (SB ++ ⟨#[92]⟩ ++ NB) = .string ⟨(writtenS (p.take (k + 1))).toArray⟩) := str_val (by rw [HP.out, countS_nil rfl rfl, List.append_nil])
          go_wp2_with fail
          go_roundw
          case rel => exact ⟨k + 1, by omega, by go_num, HV.out, HO.out.nob (Only.alloc _ _ _)⟩
          case measure => simp [intOf]; omega
        by_cases k2 : a = 1 ∧ b' = 200
        · obtain ⟨rfl, rfl⟩ := k2
          have HV := Lib.hid (HC.out ⟨#[43]⟩ (by rw [countS_plus rfl rfl]))
          go_wp2_with fail
          go_roundw
          case rel => exact ⟨k + 1, by omega, by go_num, HV.out, HO.out.nob (Only.alloc _ _ _)⟩
          case measure => simp [intOf]; omega
        by_cases k3 : a = 0 ∧ b' = 200
        · obtain ⟨rfl, rfl⟩ := k3
          have HV := Lib.hid (HC.out ⟨#[42]⟩ (by rw [countS_star rfl rfl]))
          go_wp2_with fail
          go_roundw
          case rel => exact ⟨k + 1, by omega, by go_num, HV.out, HO.out.nob (Only.alloc _ _ _)⟩
          case measure => simp [intOf]; omega
        obtain ⟨AB, hA⟩ : ∃ AB : ByteArray, AB = ⟨(dec a).toArray⟩ := ⟨_, rfl⟩
        have n2 : AB.size ≤ 3 := by rw [hA]; exact length_dec a
        have D1 := Lib.hid (rdec_any a (by omega))
        unfold StrPost at D1
        simp only [← hA] at D1
        by_cases k4 : a = b'
        · subst k4
          have e : countS ⟨(j : Int) + 1, (a : Nat), (a : Nat), []⟩ = 123 :: (dec a ++ [125]) := by
            unfold countS
            simp only [Int.toNat_natCast]
            rw [if_neg (by omega), if_neg (by omega), if_neg (by omega), if_pos trivial]
          have HV := Lib.hid (show Value.string (SB ++ ⟨#[92]⟩ ++ NB ++ ⟨#[123]⟩ ++ AB ++ ⟨#[125]⟩) = .string ⟨(writtenS (p.take (k + 1))).toArray⟩ from str_val (by rw [HP.out, e, hA]; simp [ByteArray.data_append]))
          have b1 : ((a : Int) == 1) = false := by simp; omega
          have b2 : ((a : Int) == 0) = false := by simp; omega
          clear e k1 k2 k3 hA HC HP
          go_wp2_with fail
          refine (D1.out _).mono ?_
          rintro e w2 ⟨rfl, o2⟩
          go_wp2_with fail
          go_roundw
          case rel => exact ⟨k + 1, by omega, by go_num, HV.out, (HO.out.nob (Only.alloc _ _ _)).nob o2⟩
          case measure => simp [intOf]; omega
        · have e : countS ⟨(j : Int) + 1, (a : Nat), (b' : Nat), []⟩ = 123 :: (dec a ++ (44 :: (dec b' ++ [125]))) := by
            unfold countS
            simp only [Int.toNat_natCast]
            rw [if_neg (by omega), if_neg (by omega), if_neg (by omega), if_neg (by omega)]
          obtain ⟨BB, hB⟩ : ∃ BB : ByteArray, BB = ⟨(dec b').toArray⟩ := ⟨_, rfl⟩
          have n3 : BB.size ≤ 3 := by rw [hB]; exact length_dec b'
          have D2 := Lib.hid (rdec_any b' (by omega))
          unfold StrPost at D2
          simp only [← hB] at D2
          have HV := Lib.hid (show Value.string (SB ++ ⟨#[92]⟩ ++ NB ++ ⟨#[123]⟩ ++ AB ++ ⟨#[44]⟩ ++ BB ++ ⟨#[125]⟩) = .string ⟨(writtenS (p.take (k + 1))).toArray⟩ from str_val (by rw [HP.out, e, hA, hB]; simp [ByteArray.data_append]))
          have s1 : ∀ w, (Op.stringOp .add (SB ++ ⟨#[92]⟩ ++ NB) ⟨#[123]⟩).run Tryd.prog w = .ok (.string (SB ++ ⟨#[92]⟩ ++ NB ++ ⟨#[123]⟩)) w := fun w => run_string_add_sum w _ _ (by simp only [ByteArray.size_append', sz1]; omega)
          have s2 : ∀ w, (Op.stringOp .add (SB ++ ⟨#[92]⟩ ++ NB ++ ⟨#[123]⟩) AB).run Tryd.prog w = .ok (.string (SB ++ ⟨#[92]⟩ ++ NB ++ ⟨#[123]⟩ ++ AB)) w := fun w => run_string_add_sum w _ _ (by simp only [ByteArray.size_append', sz1]; omega)
          have s3 : ∀ w, (Op.stringOp .add (SB ++ ⟨#[92]⟩ ++ NB ++ ⟨#[123]⟩ ++ AB) ⟨#[44]⟩).run Tryd.prog w = .ok (.string (SB ++ ⟨#[92]⟩ ++ NB ++ ⟨#[123]⟩ ++ AB ++ ⟨#[44]⟩)) w := fun w => run_string_add_sum w _ _ (by simp only [ByteArray.size_append', sz1]; omega)
          have s4 : ∀ w, (Op.stringOp .add (SB ++ ⟨#[92]⟩ ++ NB ++ ⟨#[123]⟩ ++ AB ++ ⟨#[44]⟩) BB).run Tryd.prog w = .ok (.string (SB ++ ⟨#[92]⟩ ++ NB ++ ⟨#[123]⟩ ++ AB ++ ⟨#[44]⟩ ++ BB)) w := fun w => run_string_add_sum w _ _ (by simp only [ByteArray.size_append', sz1]; omega)
          have s5 : ∀ w, (Op.stringOp .add (SB ++ ⟨#[92]⟩ ++ NB ++ ⟨#[123]⟩ ++ AB ++ ⟨#[44]⟩ ++ BB) ⟨#[125]⟩).run Tryd.prog w = .ok (.string (SB ++ ⟨#[92]⟩ ++ NB ++ ⟨#[123]⟩ ++ AB ++ ⟨#[44]⟩ ++ BB ++ ⟨#[125]⟩)) w := fun w => run_string_add_sum w _ _ (by simp only [ByteArray.size_append', sz1]; omega)
          have hK := Lib.hid (show ∀ w', Only Nob (wr.alloc (.cells #[.int .i64 ((j : Int) + 1), .int .i64 (a : Nat), .int .i64 (b' : Nat), .string ⟨#[]⟩] 31)) w' → w'.cell? ⟨wr.heap.size, 1, none⟩ = some (.int .i64 (a : Nat)) ∧ w'.cell? ⟨wr.heap.size, 2, none⟩ = some (.int .i64 (b' : Nat)) from fun w' o => by
            have h : PcAt w' wr.heap.size 0 ⟨(j : Int) + 1, (a : Nat), (b' : Nat), []⟩ := PcAt.other (by unfold PcAt; simp) o (fun h => h)
            unfold PcAt at h
            simp only [Nat.zero_add] at h
            exact ⟨h.2.1, h.2.2.1⟩)
          have b5 : ((a : Int) == (b' : Int)) = false := by simp; omega
          clear e hA hB HC HP
          by_cases c1 : a = 1
          case' pos =>
            have b1 : ((a : Int) == 1) = true := by simp; omega
            have b2 : ((b' : Int) == 1) = false := by simp; omega
            have b3 : ((b' : Int) == 200) = false := by simp; omega
            have b4 : ((a : Int) == 0) = false := by simp; omega
          case' neg =>
            have b1 : ((a : Int) == 1) = false := by simp; omega
            by_cases c2 : a = 0
            case' pos =>
              have b2 : ((b' : Int) == 200) = false := by simp; omega
              have b3 : ((a : Int) == 0) = true := by simp; omega
            case' neg =>
              have b2 : ((a : Int) == 0) = false := by simp; omega
          all_goals
            clear k1 k2 k3 k4
            try clear c2
            clear c1
            go_wp2_with fail
            go_region_held3 (fun w' => w'.cell? ⟨wr.heap.size, 1, none⟩ = some (.int .i64 (a : Nat)) ∧ w'.cell? ⟨wr.heap.size, 2, none⟩ = some (.int .i64 (b' : Nat)))
              (first | exact u1 | exact u0 | exact hK.out _ (Only.drew Nob _) | fail)
              (first
                | (go_at_call 109; (with_reducible refine (D1.out _).mono ?_); rintro e w1 ⟨rfl, o1⟩; have u0 := hK.out _ (Only.nob (Only.drew Nob _) o1))
                | (go_at_call 109; (with_reducible refine (D2.out _).mono ?_); rintro e w2 ⟨rfl, o2⟩; have u1 := hK.out _ (Only.nob (Only.nob (Only.drew Nob _) o1) o2))
                | fail)
            go_wp2
            go_roundw
            case rel => exact ⟨k + 1, by omega, by go_num, HV.out, (((HO.out.nob (Only.alloc _ _ _)).nob (Only.drew Nob _)).nob o1).nob o2⟩
            case measure => simp [intOf]; omega
      · obtain ⟨q1, q2, q3, q4, q5⟩ := plainB_iff.1 (hx1.resolve_left hr)
        simp only at q1 q2 q3 q4 q5
        subst q1 q2 q3
        clear hr hx1
        have HL := Lib.hid (show writtenS (p.take (k + 1)) = L ++ litS t by
          rw [hws.out]
          unfold pieceS
          rw [if_neg (by show ¬ (0 : Int) < 0; omega)])
        have hcz := Lib.hid (show ∀ w', Only Nob (wr.alloc (.cells #[.int .i64 0, .int .i64 0, .int .i64 0, .string ⟨t.toArray⟩] 31)) w' → w'.cell? ⟨wr.heap.size, 3, none⟩ = some (.string ⟨t.toArray⟩) from fun w' o => by
            have h : PcAt w' wr.heap.size 0 ⟨0, 0, 0, t⟩ := PcAt.other (by unfold PcAt; simp) o (fun h => h)
            unfold PcAt at h
            simp only [Nat.zero_add] at h
            exact h.2.2.2)
        have hS0 : Value.string SB = .string ⟨(L ++ litS (t.take 0)).toArray⟩ := by rw [hSB]; simp [litS]
        have HS0 := Lib.hid hS0
        clear hS0 hSB hws q5 q4
        go_wp2_with fail
        go_loop [3, 6] (fun sv i => ∃ j : Nat, j ≤ t.length ∧ i = .int .i64 j ∧ sv = .string ⟨(L ++ litS (t.take j)).toArray⟩) (fun _ i => t.length - (intOf i).toNat)
        case atStart => exact ⟨0, Nat.zero_le _, rfl, HS0.out⟩
        case round =>
          obtain ⟨j, hj, rfl, rfl⟩ := hrel
          have c3 := hcz.out _ (Only.refl _ _)
          clear e0 e1 e2 e3 hb
          clear HS0
          by_cases hjt : j < t.length
          · have sl := one_slice t j hjt
            have hls := Lib.hid (show litS (t.take (j + 1)) = litS (t.take j) ++ (if special t[j] then [92, t[j]] else [t[j]]) by rw [List.take_succ_eq_append_getElem hjt, litS_snoc])
            have hll := length_litS (t.take j)
            have hlt3 : (t.take j).length ≤ 1000 := by rw [List.length_take]; omega
            obtain ⟨CB, hCB⟩ : ∃ CB : ByteArray, CB = ⟨(L ++ litS (t.take j)).toArray⟩ := ⟨_, rfl⟩
            have n1 : CB.size ≤ 300000 := by
              rw [hCB]
              show (L ++ litS (t.take j)).length ≤ _
              rw [List.length_append]; omega
            rw [← hCB]
            have jj : (j : Int) < (t.length : Int) := by omega
            have SPc := Lib.hid (rspecial_any t[j])
            cases hsp : special t[j]
            · rw [hsp] at SPc hls
              have HE := Lib.hid (show Value.string (CB ++ ⟨#[t[j]]⟩) = .string ⟨(L ++ litS (t.take (j + 1))).toArray⟩ from str_val (by rw [hls.out, hCB]; simp [ByteArray.data_append]))
              clear hsp hls hCB hll hlt3
              go_wp2_with fail
              refine (SPc.out _).mono ?_
              rintro e w' ⟨rfl, rfl⟩
              go_wp2_with fail
              go_round
              case rel => exact ⟨j + 1, by omega, by go_num, HE.out⟩
              case measure => simp [intOf]; omega
            · rw [hsp] at SPc hls
              have HE := Lib.hid (show Value.string (CB ++ ⟨#[92]⟩ ++ ⟨#[t[j]]⟩) = .string ⟨(L ++ litS (t.take (j + 1))).toArray⟩ from str_val (by rw [hls.out, hCB]; simp [ByteArray.data_append]))
              clear hsp hls hCB hll hlt3
              go_wp2_with fail
              refine (SPc.out _).mono ?_
              rintro e w' ⟨rfl, rfl⟩
              go_wp2_with fail
              go_round
              case rel => exact ⟨j + 1, by omega, by go_num, HE.out⟩
              case measure => simp [intOf]; omega
          · obtain rfl : j = t.length := by omega
            have HE := Lib.hid (show Value.string ⟨(L ++ litS (t.take t.length)).toArray⟩ = .string ⟨(writtenS (p.take (k + 1))).toArray⟩ by rw [HL.out, List.take_of_length_le (Nat.le_refl _)])
            go_wp2_with fail
            go_roundw
            case rel => exact ⟨k + 1, by omega, by go_num, HE.out, HO.out.nob (Only.alloc _ _ _)⟩
            case measure => simp [intOf]; omega
    · obtain rfl : k = p.length := by omega
      go_wp2
      go_ret
      exact ⟨ret_str (by rw [List.take_of_length_le (Nat.le_refl _)]), hon⟩

end Go.Proofs.YtddjbfmohibgbaaDoor

/- Whether pieces are a right pattern: the reference's function; its Print. -/
namespace Go.Proofs.YtddjbfmohibgbaaDoor
open Go.RowKit

def okB (x : Pc) : Bool := runB x || plainB x

theorem plain_zero {x : Pc} (h : okB x = true) : plainB x = decide (x.c = 0) := by
  unfold okB at h
  cases hp : plainB x
  · rw [hp, Bool.or_false] at h
    have := (runB_iff.1 h).1
    symm; simp; omega
  · have := (plainB_iff.1 hp).1
    symm; simp; omega

set_option maxRecDepth 100000 in
set_option maxHeartbeats 4000000 in
theorem piece_any (x : Pc) (w : World) (h : PcOk x) : Calls Tryd.prog 61 #[pcV x] w (BoolPost (okB x) w) := by
  obtain ⟨hx1, hx2, hx3, hx4⟩ := h
  obtain ⟨c, l, m, t⟩ := x
  simp only at hx1 hx2 hx3 hx4
  unfold pcV SV
  have hts : t.length ≤ 9223372036854775807 := by omega
  cases hr : runB ⟨c, l, m, t⟩
  · cases hq : plainB ⟨c, l, m, t⟩
    · have HF : Hid (okB ⟨c, l, m, t⟩ = false) := by show okB _ = _; unfold okB; rw [hr, hq]; rfl
      rcases runB_no hr with h1 | ⟨h1, h2⟩
      · simp only at h1
        have hn := plainB_no hq
        simp only at hn
        clear hr hq
        rcases hn with h2 | ⟨rfl, h2 | ⟨rfl, h2 | ⟨rfl, rfl | ⟨h2, h3⟩⟩⟩⟩
        case' inl => have b1 : (c == 0) = false := by simp; omega
        case' inr.inl => have b1 : (l == 0) = false := by simp; omega
        case' inr.inr.inl => have b1 : (m == 0) = false := by simp; omega
        case' inr.inr.inr.inr =>
          have A := Lib.hid (fun w => rall_any ⟨t.toArray⟩ 7 w hts)
          have e : allB (⟨t.toArray⟩ : ByteArray).data.toList 7 = false := h3
          rw [e] at A
          have b1 : 0 < t.length := List.length_pos_iff.2 h2
          have b2 : (0 : Int) < t.length := by omega
          clear e h3
        all_goals
          go_enter Tryd.func61, Tryd.ntmps61
          go_wp2_with (go_at_call 70; refine (A.out _).mono ?_; rintro e w2 ⟨rfl, rfl⟩)
          go_ret
          exact ⟨ret_bool HF.out.symm, Only.alloc _ _ _⟩
      · simp only at h1 h2
        have c0 : (c == 0) = false := by simp; omega
        have c1 : 1 ≤ c := by omega
        clear hr hq
        rcases h2 with h2 | ⟨h2, h3 | ⟨h3, h4 | ⟨h4, h5 | ⟨h5, h6 | ⟨h6, h7⟩⟩⟩⟩⟩
        case' inr.inr.inr.inr.inr => have b1 : t.isEmpty = false := by simpa using h7
        all_goals
          try have b2 : m < 1 := by omega
          go_enter Tryd.func61, Tryd.ntmps61
          go_wp2_with fail
          go_ret
          exact ⟨ret_bool HF.out.symm, Only.alloc _ _ _⟩
    · have HF : Hid (okB ⟨c, l, m, t⟩ = true) := by show okB _ = _; unfold okB; rw [hq, Bool.or_true]
      obtain ⟨q1, q2, q3, q4, q5⟩ := plainB_iff.1 hq
      simp only at q1 q2 q3 q4 q5
      subst q1 q2 q3
      have A := Lib.hid (fun w => rall_any ⟨t.toArray⟩ 7 w hts)
      have e : allB (⟨t.toArray⟩ : ByteArray).data.toList 7 = true := q5
      rw [e] at A
      have b1 : 0 < t.length := List.length_pos_iff.2 q4
      have b2 : (0 : Int) < t.length := by omega
      clear e q5 q4 hr hq
      go_enter Tryd.func61, Tryd.ntmps61
      go_wp2_with (go_at_call 70; refine (A.out _).mono ?_; rintro e w2 ⟨rfl, rfl⟩)
      go_ret
      exact ⟨ret_bool HF.out.symm, Only.alloc _ _ _⟩
  · have HF : Hid (okB ⟨c, l, m, t⟩ = true) := by show okB _ = _; unfold okB; rw [hr]; rfl
    obtain ⟨q1, q2, q3, q4, q5, q6, q7⟩ := runB_iff.1 hr
    simp only at q1 q2 q3 q4 q5 q6 q7
    subst q7
    have c0 : (c == 0) = false := by simp; omega
    have c1 : 1 ≤ c := by omega
    have c2 : 1 ≤ m := by omega
    clear hr
    go_enter Tryd.func61, Tryd.ntmps61
    go_wp2_with fail
    go_ret
    exact ⟨ret_bool HF.out.symm, Only.alloc _ _ _⟩

def RRightRel (w : World) (p : List Pc) (iv : Value) (wr : World) : Prop :=
  ∃ k : Nat, k ≤ p.length ∧ iv = .int .i64 k ∧ okFrom false (p.take k) = true ∧ Only Nob w wr

set_option maxRecDepth 100000 in
set_option maxHeartbeats 4000000 in
theorem rright_any (v : Value) (p : List Pc) (w : World) (hp : Pcs w v p) (hg : Fair p) : Calls Tryd.prog 21 #[v] w (BoolPost (rightB p) w) := by
  obtain ⟨ao, cap, rfl⟩ := hp.form
  have hlen := hg.1
  have HB : RRightRel w p (.int .i64 (0 : Nat)) w := ⟨0, Nat.zero_le _, rfl, rfl, Only.refl _ _⟩
  go_enter Tryd.func21, Tryd.ntmps21
  go_wp2_with fail
  go_loopw [3] (fun i wr => RRightRel w p i wr) (fun i _ => p.length - (intOf i).toNat)
  case atStart => exact HB
  case round =>
    obtain ⟨k, hk, rfl, hok, hon⟩ := hrel
    clear HB
    by_cases hlt : k < p.length
    · have hpo := hg.2 _ (List.getElem_mem hlt)
      obtain ⟨b, off, rfl, hb, e0, e1, e2, e3⟩ := (hp.nob hon).at hlt
      have hs := Lib.hid (show okFrom false (p.take (k + 1)) = (okB p[k] && !(plainB p[k] && litAt false (p.take k))) by rw [List.take_succ_eq_append_getElem hlt, okFrom_snoc, hok]; simp [okB])
      have P := Lib.hid (fun w => piece_any p[k] w hpo)
      have kk : (k : Int) < (p.length : Int) := by omega
      have HO := Lib.hid hon
      have kz : (0 : Int) ≤ (k : Int) := by omega
      cases hpk : okB p[k]
      · rw [hpk] at P hs
        have HF : Hid (okFrom false (p.take (k + 1)) = false) := by rw [hs.out]; rfl
        generalize p[k] = x at P e0 e1 e2 e3
        obtain ⟨c, l, m, t⟩ := x
        unfold pcV SV at P
        simp only at e0 e1 e2 e3 P
        clear hs hpk hok hon hpo
        go_wp2_with (go_at_call 61; refine (P.out _).mono ?_; rintro e w2 ⟨rfl, o2⟩)
        go_ret
        exact ⟨ret_bool (okFrom_not HF.out).symm, HO.out.nob o2⟩
      · have hpz := Lib.hid (plain_zero hpk)
        rw [hpk] at P hs
        by_cases hk0 : k = 0
        · subst hk0
          have HT : Hid (okFrom false (p.take (0 + 1)) = true) := by rw [hs.out]; simp [litAt, Hid]
          generalize p[0] = x at P e0 e1 e2 e3
          obtain ⟨c, l, m, t⟩ := x
          unfold pcV SV at P
          simp only [Nat.zero_mul, Nat.add_zero] at e0 e1 e2 e3 P
          clear hs hpk hok hon hpo hpz
          go_wp2_with (go_at_call 61; refine (P.out _).mono ?_; rintro e w2 ⟨rfl, o2⟩)
          go_roundw
          case rel => exact ⟨0 + 1, by omega, by go_num, HT.out, HO.out.nob o2⟩
          case measure => simp [intOf]; omega
        · have hk1 : k - 1 < p.length := by omega
          obtain ⟨_, _, hv, _, f0, _⟩ := (hp.nob hon).at hk1
          simp only [Option.some.injEq, Addr.mk.injEq] at hv
          obtain ⟨rfl, rfl, _⟩ := hv
          have hla : litAt false (p.take k) = plainB p[k - 1] := by
            obtain ⟨q, rfl⟩ : ∃ q, k = q + 1 := ⟨k - 1, by omega⟩
            simp only [Nat.add_sub_cancel]
            rw [List.take_succ_eq_append_getElem (by omega), litAt_snoc]
          have hpk1 : okB p[k - 1] = true := by
            have hm : p[k - 1] ∈ p.take k := by
              rw [List.mem_take_iff_getElem]
              exact ⟨k - 1, by omega, rfl⟩
            have := okFrom_mem hok hm
            unfold okB
            simpa using this
          rw [hla, plain_zero hpk1, plain_zero hpk] at hs
          have HF0 : Hid (∀ w', Only Nob wr w' → w'.cell? ⟨b, off + (k - 1) * 4, none⟩ = some (.int .i64 p[k - 1].c)) := fun w' o => (o.cell (a := ⟨b, off + (k - 1) * 4, none⟩) hb (fun h => h)).trans f0
          have HE0 : Hid (∀ w', Only Nob wr w' → w'.cell? ⟨b, off + k * 4, none⟩ = some (.int .i64 p[k].c)) := fun w' o => (o.cell (a := ⟨b, off + k * 4, none⟩) hb (fun h => h)).trans e0
          generalize p[k - 1].c = c' at HF0 hs
          generalize p[k] = x at P e0 e1 e2 e3 HE0 hs
          obtain ⟨c, l, m, t⟩ := x
          unfold pcV SV at P
          simp only at e0 e1 e2 e3 P HE0 hs
          have hkp : (0 : Int) < (k : Int) := by omega
          have hw1 : IntKind.i64.wrap ((k : Int) - 1) = ((k - 1 : Nat) : Int) := by rw [IntWalk.i64_in _ (by omega)]; omega
          have hk1p : ((k - 1 : Nat) : Int) < (p.length : Int) := by omega
          have hk1z : (0 : Int) ≤ ((k - 1 : Nat) : Int) := by omega
          clear hpk hok hon hpo hpz hla hpk1 f0 hk0
          by_cases hc : c = 0
          · subst hc
            by_cases hc' : c' = 0
            · subst hc'
              have HF : Hid (okFrom false (p.take (k + 1)) = false) := by rw [hs.out]; rfl
              clear hs
              go_wp2_with (go_at_call 61; refine (P.out _).mono ?_; rintro e w2 ⟨rfl, o2⟩; have f2 := HF0.out _ o2; have e22 := HE0.out _ o2)
              go_ret
              exact ⟨ret_bool (okFrom_not HF.out).symm, HO.out.nob o2⟩
            · have HT : Hid (okFrom false (p.take (k + 1)) = true) := by rw [hs.out]; simp [hc', Hid]
              have b1 : (c' == 0) = false := by simp; omega
              clear hs hc'
              go_wp2_with (go_at_call 61; refine (P.out _).mono ?_; rintro e w2 ⟨rfl, o2⟩; have f2 := HF0.out _ o2; have e22 := HE0.out _ o2)
              go_roundw
              case rel => exact ⟨k + 1, by omega, by go_num, HT.out, HO.out.nob o2⟩
              case measure => simp [intOf]; omega
          · have HT : Hid (okFrom false (p.take (k + 1)) = true) := by rw [hs.out]; simp [hc, Hid]
            have b1 : (c == 0) = false := by simp; omega
            clear hs hc
            go_wp2_with (go_at_call 61; refine (P.out _).mono ?_; rintro e w2 ⟨rfl, o2⟩; have f2 := HF0.out _ o2; have e22 := HE0.out _ o2)
            go_roundw
            case rel => exact ⟨k + 1, by omega, by go_num, HT.out, HO.out.nob o2⟩
            case measure => simp [intOf]; omega
    · obtain rfl : k = p.length := by omega
      rw [List.take_of_length_le (Nat.le_refl _)] at hok
      have HR : Hid (Good p ∨ 60 < p.length) := by
        rcases Nat.lt_or_ge 60 p.length with h | h
        · exact .inr h
        · exact .inl ⟨h, fun x hx => ⟨okFrom_mem hok hx, (hg.2 x hx).2.2.2⟩⟩
      rcases HR.out with hgood | hbig
      · have hl60 := hgood.1
        have W := Lib.hid (rwritten_any _ p wr (hp.nob hon) hgood)
        have HE : Hid (rightB p = decide ((writtenS p).length ≤ 60)) := by
          unfold rightB
          rw [hok, decide_eq_true hl60]; rfl
        clear HR hok hgood
        go_wp2_with fail
        refine W.out.mono ?_
        rintro e w2 ⟨rfl, o2⟩
        by_cases hw : (writtenS p).length ≤ 60
        case' pos => have HE2 : Hid (rightB p = true) := by rw [HE.out, decide_eq_true hw]; rfl
        case' neg => have HE2 : Hid (rightB p = false) := by rw [HE.out, decide_eq_false hw]; rfl
        all_goals
          go_wp2
          go_ret
          refine ⟨ret_bool ?_, hon.nob o2⟩
          rw [HE2.out]
          first | rfl | (simp; omega)
      · have HE : Hid (rightB p = false) := by
          unfold rightB
          rw [decide_eq_false (Nat.not_le.2 hbig)]; simp [Hid]
        clear HR hok
        go_wp2_with fail
        go_ret
        exact ⟨ret_bool HE.out.symm, hon⟩

theorem rprint_any (v : Value) (p : List Pc) (w : World) (hp : Pcs w v p) (hg : Fair p) : Calls Tryd.prog 22 #[v] w (StrPost (printS p) w) := by
  have R := Lib.hid (rright_any v p w hp hg)
  cases hr : rightB p
  · rw [hr] at R
    have e : printS p = [] := by unfold printS; rw [hr]; rfl
    rw [e]
    clear e hr
    go_enter Tryd.func22, Tryd.ntmps22
    go_wp2_with (go_at_call 21; refine R.out.mono ?_; rintro e w2 ⟨rfl, o2⟩)
    go_ret
    exact ⟨rfl, o2⟩
  · rw [hr] at R
    have e : printS p = writtenS p := by unfold printS; rw [hr]; rfl
    have W := Lib.hid (fun w2 (o2 : Only Nob w w2) => rwritten_any v p w2 (hp.nob o2) (okFrom_good hg hr))
    rw [e]
    clear e hr
    go_enter Tryd.func22, Tryd.ntmps22
    go_wp2_with fail
    refine R.out.mono ?_
    rintro e w2 ⟨rfl, o2⟩
    go_wp2_with fail
    refine (W.out _ o2).mono ?_
    rintro e w3 ⟨rfl, o3⟩
    go_wp2
    go_ret
    exact ⟨rfl, o2.nob o3⟩

end Go.Proofs.YtddjbfmohibgbaaDoor
