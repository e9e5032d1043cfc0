/- Numbers in decimal: strconv.Itoa for small numbers, a piece's count. -/
import Derived.Test.YtddjbfmohibgbaaDoorAll
import Derived.Test.YtddjbfmohibgbaaDoorShelf
import Derived.Lib.SmallJoins
import Derived.Lib.AppendIntMem
import Derived.Deep.RegionHeld3
namespace Go.Proofs.YtddjbfmohibgbaaDoor
open Go.RowKit

/-- The table of powers that the library's numerals read. -/
def Tab (w : World) : Prop := Lib.TabIs Tryd.prog w "internal/strconv.uint64pow10" .u64 Lib.pow10Tab

theorem Tab.other {w w' : World} (h : Tab w) (ho : Only Nob w w') : Tab w' :=
  Joins.tab_stays (g := 1) (by kernel_rfl) h (below_of_nob ho) (Nat.le_refl _)

theorem dec_digits (n : Nat) (h : n < 1000) : Lib.decDigits n = dec n := by
  unfold dec
  rw [Lib.decDigits]
  by_cases h1 : n < 10
  · rw [dif_pos h1, if_pos h1]; rfl
  · rw [dif_neg h1, if_neg h1, Lib.decDigits]
    by_cases h2 : n < 100
    · rw [dif_pos (by omega), if_pos h2]; rfl
    · rw [dif_neg (by omega), if_neg h2, Lib.decDigits, dif_pos (by omega)]
      have e : n / 10 / 10 = n / 100 := by omega
      rw [e]; rfl

theorem sz1 (c : UInt8) : (⟨#[c]⟩ : ByteArray).size = 1 := rfl

theorem ret_str {x : ByteArray} {l : List UInt8} (h : x.data.toList = l) : Ending.returned (.string x) = .returned (.string ⟨l.toArray⟩) := by
  rw [← h]

/-- A string in new memory, or none. -/
def StrPost (l : List UInt8) (w : World) (e : Ending) (w' : World) : Prop := e = .returned (.string ⟨l.toArray⟩) ∧ Only Nob w w'

theorem itoa_any (n : Nat) (h : n < 1000) (w : World) (ht : Tab w) : Calls Tryd.prog 89 #[.int .i64 n] w (StrPost (dec n) w) := by
  refine (Tryd.strconv_Itoa n (by omega) (by omega) w ht).mono ?_
  rintro e w' ⟨rfl, k, os, rfl⟩
  have e1 : Lib.itoa (n : Int) = dec n := by
    unfold Lib.itoa
    rw [if_neg (by omega), Int.toNat_natCast, dec_digits n h]
  exact ⟨by rw [e1], nob_of_below (Lib.below_grow _ w (Nat.le_refl _) k os)⟩

/-- A piece as a value. -/
def pcV (x : Pc) : Value := .agg #[.int .i64 x.c, .int .i64 x.l, .int .i64 x.m, SV x.t]

theorem countS_nil {x : Pc} (h1 : x.l = 1) (h2 : x.m = 1) : countS x = [] := by unfold countS; rw [if_pos ⟨h1, h2⟩]
theorem countS_plus {x : Pc} (h1 : x.l = 1) (h2 : x.m = 200) : countS x = [43] := by unfold countS; rw [if_neg (by omega), if_pos ⟨h1, h2⟩]
theorem countS_star {x : Pc} (h1 : x.l = 0) (h2 : x.m = 200) : countS x = [42] := by unfold countS; rw [if_neg (by omega), if_neg (by omega), if_pos ⟨h1, h2⟩]

set_option maxRecDepth 100000 in
set_option maxHeartbeats 2000000 in
theorem count_any (x : Pc) (w : World) (hr : runB x = true) (ht : Tab w) : Calls Tryd.prog 101 #[pcV x] w (StrPost (countS x) w) := by
  obtain ⟨c, l, m, t⟩ := x
  obtain ⟨-, -, h1, h2, h3, h4, -⟩ := runB_iff.1 hr
  clear hr
  simp only at h1 h2 h3 h4
  obtain ⟨a, rfl⟩ := Int.eq_ofNat_of_zero_le h1
  obtain ⟨b, rfl⟩ := Int.eq_ofNat_of_zero_le (show 0 ≤ m by omega)
  have oA : Only Nob w (w.alloc (.cells #[.int .i64 c, .int .i64 (a : Nat), .int .i64 (b : Nat), .string ⟨t.toArray⟩] 31)) := Only.alloc _ _ _
  have HT := Lib.hid (ht.other oA)
  clear ht
  unfold pcV SV
  by_cases k1 : a = 1 ∧ b = 1
  · obtain ⟨rfl, rfl⟩ := k1
    rw [countS_nil rfl rfl]
    go_enter Tryd.func101, Tryd.ntmps101
    go_wp2
    go_ret
    exact ⟨rfl, oA⟩
  by_cases k2 : a = 1 ∧ b = 200
  · obtain ⟨rfl, rfl⟩ := k2
    rw [countS_plus rfl rfl]
    go_enter Tryd.func101, Tryd.ntmps101
    go_wp2
    go_ret
    exact ⟨rfl, oA⟩
  by_cases k3 : a = 0 ∧ b = 200
  · obtain ⟨rfl, rfl⟩ := k3
    rw [countS_star rfl rfl]
    go_enter Tryd.func101, Tryd.ntmps101
    go_wp2
    go_ret
    exact ⟨rfl, oA⟩
  have I1 := Lib.hid (fun w => itoa_any a (by omega) w)
  have I2 := Lib.hid (fun w => itoa_any b (by omega) w)
  have D1 := length_dec a
  have D2 := length_dec b
  by_cases k4 : a = b
  · subst k4
    have e : countS ⟨c, (a : Nat), (a : Nat), t⟩ = 123 :: (dec a ++ [125]) := by
      unfold countS
      simp only [Int.toNat_natCast]
      rw [if_neg (by omega), if_neg (by omega), if_neg (by omega), if_pos trivial]
    rw [e]
    have b1 : ((a : Int) == 1) = false := by simp; omega
    have b2 : ((a : Int) == 0) = false := by simp; omega
    have HO := Lib.hid oA
    clear e k1 k2 k3 oA
    go_enter Tryd.func101, Tryd.ntmps101
    go_wp2_with fail
    refine (I1.out _ HT.out).mono ?_
    rintro e w1 ⟨rfl, o1⟩
    go_wp2
    go_ret
    exact ⟨ret_str (by simp [ByteArray.data_append]), HO.out.nob o1⟩
  · have e : countS ⟨c, (a : Nat), (b : Nat), t⟩ = 123 :: (dec a ++ (44 :: (dec b ++ [125]))) := by
      unfold countS
      simp only [Int.toNat_natCast]
      rw [if_neg (by omega), if_neg (by omega), if_neg (by omega), if_neg (by omega)]
    rw [e]
    have hcells : (w.alloc (.cells #[.int .i64 c, .int .i64 (a : Nat), .int .i64 (b : Nat), .string ⟨t.toArray⟩] 31)).cell? ⟨w.heap.size, 1, none⟩ = some (.int .i64 (a : Nat)) ∧ (w.alloc (.cells #[.int .i64 c, .int .i64 (a : Nat), .int .i64 (b : Nat), .string ⟨t.toArray⟩] 31)).cell? ⟨w.heap.size, 2, none⟩ = some (.int .i64 (b : Nat)) := by simp
    have b5 : ((a : Int) == (b : Int)) = false := by simp; omega
    have HO := Lib.hid oA
    have HC := Lib.hid hcells
    have HK := Lib.hid (show ∀ w', Only Nob (w.alloc (.cells #[.int .i64 c, .int .i64 (a : Nat), .int .i64 (b : Nat), .string ⟨t.toArray⟩] 31)) w' → w'.cell? ⟨w.heap.size, 1, none⟩ = some (.int .i64 (a : Nat)) ∧ w'.cell? ⟨w.heap.size, 2, none⟩ = some (.int .i64 (b : Nat)) from fun w' o =>
      have hz : w.heap.size < (w.alloc (.cells #[.int .i64 c, .int .i64 (a : Nat), .int .i64 (b : Nat), .string ⟨t.toArray⟩] 31)).heap.size := by simp
      ⟨(o.cell (a := ⟨w.heap.size, 1, none⟩) hz (fun h => h)).trans hcells.1, (o.cell (a := ⟨w.heap.size, 2, none⟩) hz (fun h => h)).trans hcells.2⟩)
    clear e oA hcells
    have HT2 := Lib.hid (fun w' o => HT.out.other (w' := w') o)
    clear HT
    obtain ⟨A, hA⟩ : ∃ A : ByteArray, A = ⟨(dec a).toArray⟩ := ⟨_, rfl⟩
    obtain ⟨B, hB⟩ : ∃ B : ByteArray, B = ⟨(dec b).toArray⟩ := ⟨_, rfl⟩
    have hAs : A.size ≤ 3 := by rw [hA]; exact D1
    have hBs : B.size ≤ 3 := by rw [hB]; exact D2
    have HE := Lib.hid (show (⟨#[123]⟩ ++ A ++ ⟨#[44]⟩ ++ B ++ ⟨#[125]⟩ : ByteArray).data.toList = 123 :: (dec a ++ (44 :: (dec b ++ [125]))) by rw [hA, hB]; simp [ByteArray.data_append])
    unfold StrPost at I1 I2
    rw [← hA] at I1
    rw [← hB] at I2
    clear hA hB D1 D2
    have s1 : ∀ w, (Op.stringOp .add ⟨#[123]⟩ A).run Tryd.prog w = .ok (.string (⟨#[123]⟩ ++ A)) w := fun w => run_string_add_sum w _ _ (by simp only [sz1]; omega)
    have s2 : ∀ w, (Op.stringOp .add (⟨#[123]⟩ ++ A) ⟨#[44]⟩).run Tryd.prog w = .ok (.string (⟨#[123]⟩ ++ A ++ ⟨#[44]⟩)) w := fun w => run_string_add_sum w _ _ (by simp only [ByteArray.size_append', sz1]; omega)
    have s3 : ∀ w, (Op.stringOp .add (⟨#[123]⟩ ++ A ++ ⟨#[44]⟩) B).run Tryd.prog w = .ok (.string (⟨#[123]⟩ ++ A ++ ⟨#[44]⟩ ++ B)) w := fun w => run_string_add_sum w _ _ (by simp only [ByteArray.size_append', sz1]; omega)
    have s4 : ∀ w, (Op.stringOp .add (⟨#[123]⟩ ++ A ++ ⟨#[44]⟩ ++ B) ⟨#[125]⟩).run Tryd.prog w = .ok (.string (⟨#[123]⟩ ++ A ++ ⟨#[44]⟩ ++ B ++ ⟨#[125]⟩)) w := fun w => run_string_add_sum w _ _ (by simp only [ByteArray.size_append', sz1]; omega)
    have b5d := b5
    by_cases c1 : a = 1
    case' pos =>
      have b1 : ((a : Int) == 1) = true := by simp; omega
      have b2 : ((b : Int) == 1) = false := by simp; omega
      have b3 : ((b : Int) == 200) = false := by simp; omega
      have b4 : ((a : Int) == 0) = false := by simp; omega
    case' neg =>
      have b1 : ((a : Int) == 1) = false := by simp; omega
      by_cases c0 : a = 0
      case' pos =>
        have b2 : ((b : Int) == 200) = false := by simp; omega
        have b3 : ((a : Int) == 0) = true := by simp; omega
      case' neg =>
        have b2 : ((a : Int) == 0) = false := by simp; omega
    all_goals
      clear k1 k2 k3 k4 b5d
      try clear c0
      clear c1
      go_enter Tryd.func101, Tryd.ntmps101
      go_wp2_with fail
      go_region_held3 (fun w' => w'.cell? ⟨w.heap.size, 1, none⟩ = some (.int .i64 (a : Nat)) ∧ w'.cell? ⟨w.heap.size, 2, none⟩ = some (.int .i64 (b : Nat)))
        (first | exact u1 | exact u0 | exact HC.out)
        (first
          | (go_at_call 89; (with_reducible refine (I1.out _ (HT2.out _ (Only.drew Nob _))).mono ?_); rintro e w1 ⟨rfl, o1⟩; have u0 := HK.out _ (Only.nob (Only.drew Nob _) o1))
          | (go_at_call 89; (with_reducible refine (I2.out _ (HT2.out _ (Only.nob (Only.drew Nob _) o1))).mono ?_); rintro e w2 ⟨rfl, o2⟩; have u1 := HK.out _ (Only.nob (Only.nob (Only.drew Nob _) o1) o2)))
      go_wp2
      go_ret
      exact ⟨ret_str HE.out, ((HO.out.nob (Only.drew Nob _)).nob o1).nob o2⟩

end Go.Proofs.YtddjbfmohibgbaaDoor
