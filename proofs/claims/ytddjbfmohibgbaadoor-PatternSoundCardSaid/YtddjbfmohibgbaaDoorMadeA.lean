/- Chapter 05: the makers of patterns and texts. -/
import Derived.Test.YtddjbfmohibgbaaDoorMemA
import Derived.Test.YtddjbfmohibgbaaDoorPlainA
import Derived.Test.YtddjbfmohibgbaaDoorREndA
import Derived.Test.YtddjbfmohibgbaaDoorRdA

/- The maker of patterns. -/
namespace Go.Proofs.YtddjbfmohibgbaaDoor
open Go.RowKit

/-- Between two rounds. -/
def MdRel (w : World) (l : List Int) (ov iv : Value) (wr : World) : Prop :=
  ∃ (j i : Nat), iv = .int .i64 (i : Int) ∧ i = 3 * j ∧ j ≤ 5 ∧ j ≤ l.length / 3 ∧ OwnP wr ov (madeN l j) ∧ (∀ k, Blk ov k → w.heap.size ≤ k) ∧ Only Nob w wr

/-- The texts of the maker, as a row. -/
def txtRow : Array Value := #[.string ⟨#[45]⟩, .string ⟨#[97]⟩, .string ⟨#[66, 55]⟩, .string ⟨#[43]⟩, .string ⟨#[92, 123]⟩, .string ⟨#[32]⟩, .string ⟨#[120, 32, 121]⟩]
theorem txt_at (w : World) {q : Nat} (h : q < 7) : (w.alloc (.cells txtRow 9)).cell? ⟨w.heap.size, q, none⟩ = some (.string ⟨(madeTexts.getD q []).toArray⟩) := by
  rw [cell_of_row _ w.heap.size q _ _ _ (heap_alloc_new w (.cells txtRow 9))]
  have : q = 0 ∨ q = 1 ∨ q = 2 ∨ q = 3 ∨ q = 4 ∨ q = 5 ∨ q = 6 := by omega
  rcases this with rfl | rfl | rfl | rfl | rfl | rfl | rfl <;> rfl

theorem PcRow.setm {w : World} {b : Nat} {x : Pc} (h : PcRow w b x) (m : Int) : PcRow (w.setCell ⟨b, 2, none⟩ (.int .i64 m)) b ⟨x.c, x.l, m, x.t⟩ := heap_setCell_same _ b 2 _ 31 _ h
theorem PcRow.setl {w : World} {b : Nat} {x : Pc} (h : PcRow w b x) (l : Int) : PcRow (w.setCell ⟨b, 1, none⟩ (.int .i64 l)) b ⟨x.c, l, x.m, x.t⟩ := heap_setCell_same _ b 1 _ 31 _ h

set_option maxRecDepth 100000 in
set_option maxHeartbeats 4000000 in
theorem made_any (v : Value) (l : List Int) (w : World) (hl : IntsA w v l) :
    Calls Tryd.prog 17 #[v] w fun e w' => ∃ ov, e = .returned ov ∧ OwnP w' ov (madeL l) ∧ (∀ k, Blk ov k → w.heap.size ≤ k) ∧ Only Nob w w' := by
  obtain ⟨ao, cap, rfl⟩ := hl.form
  have HL := Lib.hid hl
  clear hl
  go_enter Tryd.func17, Tryd.ntmps17
  go_wp2_with fail
  go_loopw [3, 4] (fun ov iv wr => MdRel w l ov iv wr) (fun _ iv _ => 15 - (intOf iv).toNat)
  case atStart => exact ⟨0, 0, rfl, rfl, by omega, by omega, OwnP.nil _, fun i h => (by cases h), Only.refl _ _⟩
  case round =>
    obtain ⟨j, i, rfl, hij, hj5, hjl, hown, hnew, hon⟩ := hrel
    obtain ⟨oo, oc, rfl⟩ := hown.form
    have HIJ := Lib.hid hij
    have HJ := Lib.hid (And.intro hj5 hjl)
    have HOW := Lib.hid hown
    have HN := Lib.hid hnew
    have HO := Lib.hid hon
    have hi15 : i ≤ 15 := by omega
    have hlb := HL.out.1
    have hw2 : IntKind.i64.wrap ((i : Int) + 2) = ((i + 2 : Nat) : Int) := by rw [IntWalk.i64_in _ (by omega)]; omega
    obtain ⟨i2, hi2⟩ : ∃ i2, i2 = i + 2 := ⟨_, rfl⟩
    rw [← hi2] at hw2
    have HI2 := Lib.hid hi2
    by_cases hlt : i2 < l.length
    · by_cases h15 : i < 15
      · have c1 : (i2 : Int) < (l.length : Int) := by omega
        have c2 : (i : Int) < 15 := by omega
        obtain ⟨b, off, rfl, hb, hcell⟩ := (HL.out.nob hon).pos (by omega)
        obtain ⟨i1, hi1⟩ : ∃ i1, i1 = i + 1 := ⟨_, rfl⟩
        have hw1 : IntKind.i64.wrap ((i : Int) + 1) = (i1 : Int) := by rw [IntWalk.i64_in _ (by omega)]; omega
        have hw3 : IntKind.i64.wrap ((i : Int) + 3) = ((i + 3 : Nat) : Int) := by rw [IntWalk.i64_in _ (by omega)]; omega
        have e0 := hcell i (by omega)
        have e1 := hcell i1 (by omega)
        have e2 := hcell i2 (by omega)
        have l0 : i < l.length := by omega
        have l1 : i1 < l.length := by omega
        have l0' : (i : Int) < (l.length : Int) := by omega
        have l1' : (i1 : Int) < (l.length : Int) := by omega
        have r0 := HL.out.rng i
        have r1 := HL.out.rng i1
        have r2 := HL.out.rng i2
        have HS := Lib.hid (show madeN l (j + 1) = stepM (madeN l j) (l.getD i 0) (l.getD i1 0) (l.getD i2 0) by rw [hi2, hi1, hij]; rfl)
        have HMO := Lib.hid (made_ok l j)
        clear hij hj5 hjl hown hnew hon hlt h15 hi1 hi2 hi15 hcell
        generalize l.getD i 0 = xa at *
        generalize l.getD i1 0 = xb at *
        generalize l.getD i2 0 = xc at *
        have M11 := Lib.hid (fun w => rmod_any xa 11 w r0 (by decide) (by decide))
        obtain ⟨ka, hka⟩ : ∃ ka, ka = xa % 11 := ⟨_, rfl⟩
        rw [← hka] at M11
        have HKA := Lib.hid hka
        have hkr : 0 ≤ ka ∧ ka ≤ 10 := by omega
        clear hka
        by_cases h6 : 6 < ka
        · have HST : Hid (madeN l (j + 1) = litAdd (madeN l j) (madeTexts.getD (xb % 7).toNat [])) := by
            show _ = _
            rw [HS.out]; unfold stepM; rw [← HKA.out, if_pos h6]
          obtain ⟨q, hq⟩ : ∃ q : Nat, xb % 7 = (q : Int) := ⟨(xb % 7).toNat, by omega⟩
          have hq7 : q < 7 := by omega
          have M7 := Lib.hid (fun w => rmod_any xb 7 w r1 (by decide) (by decide))
          rw [hq] at M7
          rw [hq, Int.toNat_natCast] at HST
          have ct := txt_at wr hq7
          unfold txtRow at ct
          have htx := madeTexts_ok hq7
          have HQ := Lib.hid hq
          clear hq
          generalize madeTexts.getD q [] = t at *
          have hq7' : (q : Int) < 7 := by omega
          have HQ7 := Lib.hid hq7
          clear hq7
          generalize madeN l j = P at *
          have oA : Only Nob wr (wr.alloc (.cells #[.string ⟨#[45]⟩, .string ⟨#[97]⟩, .string ⟨#[66, 55]⟩, .string ⟨#[43]⟩, .string ⟨#[92, 123]⟩, .string ⟨#[32]⟩, .string ⟨#[120, 32, 121]⟩] 9)) := Only.alloc _ _ _
          have hownA := HOW.out.other oA (fun _ _ h => h)
          have HOA := Lib.hid (HO.out.nob oA)
          have hszA : (wr.alloc (.cells #[.string ⟨#[45]⟩, .string ⟨#[97]⟩, .string ⟨#[66, 55]⟩, .string ⟨#[43]⟩, .string ⟨#[92, 123]⟩, .string ⟨#[32]⟩, .string ⟨#[120, 32, 121]⟩] 9)).heap.size = wr.heap.size + 1 := by simp
          have HSA := Lib.hid hszA
          rcases List.eq_nil_or_concat P with rfl | ⟨qs, x, rfl⟩
          · rw [litAdd_nil] at HST
            have z0 := PcRow.new (wr.alloc (.cells #[.string ⟨#[45]⟩, .string ⟨#[97]⟩, .string ⟨#[66, 55]⟩, .string ⟨#[43]⟩, .string ⟨#[92, 123]⟩, .string ⟨#[32]⟩, .string ⟨#[120, 32, 121]⟩] 9)) ⟨0, 0, 0, t⟩
            rw [hszA] at z0
            have oB : Only Nob (wr.alloc (.cells #[.string ⟨#[45]⟩, .string ⟨#[97]⟩, .string ⟨#[66, 55]⟩, .string ⟨#[43]⟩, .string ⟨#[92, 123]⟩, .string ⟨#[32]⟩, .string ⟨#[120, 32, 121]⟩] 9)) ((wr.alloc (.cells #[.string ⟨#[45]⟩, .string ⟨#[97]⟩, .string ⟨#[66, 55]⟩, .string ⟨#[43]⟩, .string ⟨#[92, 123]⟩, .string ⟨#[32]⟩, .string ⟨#[120, 32, 121]⟩] 9)).alloc (.cells #[.int .i64 0, .int .i64 0, .int .i64 0, .string ⟨t.toArray⟩] 31)) := Only.alloc _ _ _
            have hownB := hownA.other oB (fun _ _ h => h)
            have HOB := Lib.hid (HOA.out.nob oB)
            clear oA oB hownA hszA
            go_wp2_with (first | (go_at_call 25; (with_reducible refine (M11.out _).mono ?_); rintro e w' ⟨rfl, rfl⟩) | fail)
            go_wp2_with (first | (go_at_call 25; (with_reducible refine (M7.out _).mono ?_); rintro e w' ⟨rfl, rfl⟩) | (at_builtin; refine wpList_append_pc rfl _ _ rfl _ _ rfl hownB _ _ rfl z0 (by decide) ?_) | fail)
            intro v' w' ho' on' hb'
            have HZ := Lib.hid (show MdRel w l v' (.int .i64 ((i + 3 : Nat) : Int)) w' from by
              have h1 := HIJ.out
              have h2 := HI2.out
              refine ⟨j + 1, i + 3, rfl, by omega, by omega, by omega, by rw [HST.out]; exact ho', fun k hk => ?_, HOB.out.trans on' (fun k hk hx => ?_)⟩
              · rcases hb' k hk with h | h
                · exact HN.out k h
                · have := HO.out.size
                  omega
              · have := HN.out k hx
                omega)
            obtain ⟨o3, oc3, rfl⟩ := ho'.form
            clear ho' on' hb'
            go_wp2_with fail
            go_roundw
            case rel => exact HZ.out
            case measure => simp [intOf]; omega
          · rw [List.concat_eq_append] at *
            obtain ⟨gb, capq, hvq, -, hgb⟩ := own_form_pos HOW.out (by simp)
            obtain ⟨rfl, rfl⟩ := (by simpa using hvq : oo = some ⟨gb, 0, none⟩ ∧ oc = capq)
            have lq : (qs ++ [x]).length = qs.length + 1 := by simp
            have hq5 : qs.length < 10 := by have := HMO.out.2; have := HJ.out; omega
            have hi1 : IntKind.i64.wrap ((qs.length : Int) + 1 - 1) = (qs.length : Int) := by rw [IntWalk.i64_in _ (by omega)]; omega
            have x0 := (hownA.pcAt (i := qs.length) (by simp)).1
            have x3 := (hownA.pcAt (i := qs.length) (by simp)).2.2.2
            rw [List.getElem_concat_length rfl] at x0 x3
            have hfz := hownA.frozen (qs.length * 4 + 3)
            have hi2 : (qs.length : Int) < (qs.length : Int) + 1 := by omega
            have hi3 : qs.length < qs.length + 1 := by omega
            have hxt := (HMO.out.1 x (by simp)).2
            have hj5 := HJ.out.1
            clear hvq
            by_cases hx0 : x.c = 0
            · rw [litAdd_lit _ _ _ hx0] at HST
              obtain ⟨X, hX⟩ : ∃ X : ByteArray, X = ⟨x.t.toArray⟩ := ⟨_, rfl⟩
              obtain ⟨Y, hY⟩ : ∃ Y : ByteArray, Y = ⟨t.toArray⟩ := ⟨_, rfl⟩
              have hXs : X.size ≤ 60 := by rw [hX]; show x.t.length ≤ 60; omega
              have hYs : Y.size ≤ 60 := by rw [hY]; show t.length ≤ 60; omega
              have s1 : ∀ w, (Op.stringOp .add X Y).run Tryd.prog w = .ok (.string (X ++ Y)) w := fun w => run_string_add_sum w _ _ (by omega)
              have hXc : (⟨(x.t ++ t).toArray⟩ : ByteArray) = X ++ Y := str_eq (by rw [hX, hY]; simp [ByteArray.data_append])
              have hL := HOW.out.last (x.t ++ t)
              rw [hXc, lq] at hL
              have HLL := Lib.hid hL
              rw [hx0] at x0
              rw [← hX] at x3
              rw [← hY] at ct
              have HXY := Lib.hid (And.intro hX hY)
              clear hX hY hXc hL hownA hx0 hxt htx
              go_wp2_with (first | (go_at_call 25; (with_reducible refine (M11.out _).mono ?_); rintro e w' ⟨rfl, rfl⟩) | fail)
              go_wp2_with (first | (go_at_call 25; (with_reducible refine (M7.out _).mono ?_); rintro e w' ⟨rfl, rfl⟩) | fail)
              go_roundw
              case rel =>
                have h1 := HIJ.out
                have h2 := HI2.out
                refine ⟨j + 1, i + 3, congrArg (Value.int .i64) (by omega), by omega, by omega, by omega, by rw [HST.out]; exact HLL.out.other (Only.alloc Nob _ _) (fun _ _ h => h), fun k hk => HN.out k hk, ?_⟩
                have o1 : Only (fun k => w.heap.size ≤ k) w (wr.setCell ⟨gb, qs.length * 4 + 3, none⟩ (.string (X ++ Y))) := (HO.out.mono (fun _ _ h => h.elim)).trans (Only.setCell (S := fun k => w.heap.size ≤ k) wr ⟨gb, qs.length * 4 + 3, none⟩ _ (HN.out gb rfl)) (fun _ _ h => h)
                exact (o1.trans (Only.alloc Nob _ _) (fun _ _ h => h.elim)).mono (fun k hk h => absurd hk (Nat.not_lt.2 h))
              case measure => simp [intOf]; omega
            · rw [litAdd_run _ _ _ hx0] at HST
              have z0 := PcRow.new (wr.alloc (.cells #[.string ⟨#[45]⟩, .string ⟨#[97]⟩, .string ⟨#[66, 55]⟩, .string ⟨#[43]⟩, .string ⟨#[92, 123]⟩, .string ⟨#[32]⟩, .string ⟨#[120, 32, 121]⟩] 9)) ⟨0, 0, 0, t⟩
              rw [hszA] at z0
              have oB : Only Nob (wr.alloc (.cells #[.string ⟨#[45]⟩, .string ⟨#[97]⟩, .string ⟨#[66, 55]⟩, .string ⟨#[43]⟩, .string ⟨#[92, 123]⟩, .string ⟨#[32]⟩, .string ⟨#[120, 32, 121]⟩] 9)) ((wr.alloc (.cells #[.string ⟨#[45]⟩, .string ⟨#[97]⟩, .string ⟨#[66, 55]⟩, .string ⟨#[43]⟩, .string ⟨#[92, 123]⟩, .string ⟨#[32]⟩, .string ⟨#[120, 32, 121]⟩] 9)).alloc (.cells #[.int .i64 0, .int .i64 0, .int .i64 0, .string ⟨t.toArray⟩] 31)) := Only.alloc _ _ _
              have hownB := hownA.other oB (fun _ _ h => h)
              rw [lq] at hownB
              have hl60 : (qs ++ [x]).length ≤ 10000 := by omega
              have HOB := Lib.hid (HOA.out.nob oB)
              clear oA oB hownA hszA
              go_wp2_with (first | (go_at_call 25; (with_reducible refine (M11.out _).mono ?_); rintro e w' ⟨rfl, rfl⟩) | fail)
              go_wp2_with (first | (go_at_call 25; (with_reducible refine (M7.out _).mono ?_); rintro e w' ⟨rfl, rfl⟩) | (at_builtin; refine wpList_append_pc rfl _ _ rfl _ _ rfl hownB _ _ rfl z0 hl60 ?_) | fail)
              intro v' w' ho' on' hb'
              have HZ := Lib.hid (show MdRel w l v' (.int .i64 ((i + 3 : Nat) : Int)) w' from by
                have h1 := HIJ.out
                have h2 := HI2.out
                refine ⟨j + 1, i + 3, rfl, by omega, by omega, by omega, by rw [HST.out, show qs ++ [x] ++ [⟨0, 0, 0, t⟩] = qs ++ [x, ⟨0, 0, 0, t⟩] by simp]; exact ho', fun k hk => ?_, HOB.out.trans on' (fun k hk hx => ?_)⟩
                · rcases hb' k hk with h | h
                  · exact HN.out k h
                  · have := HO.out.size
                    omega
                · have := HN.out k hx
                  omega)
              obtain ⟨o3, oc3, rfl⟩ := ho'.form
              clear ho' on' hb'
              go_wp2_with fail
              go_roundw
              case rel => exact HZ.out
              case measure => simp [intOf]; omega
        · have HST : Hid (madeN l (j + 1) = madeN l j ++ [runM xa xb xc]) := by
            show _ = _
            rw [HS.out]; unfold stepM; rw [← HKA.out, if_neg h6]
          obtain ⟨kb, hkb⟩ : ∃ kb, kb = xb % 3 := ⟨_, rfl⟩
          obtain ⟨k4, hk4⟩ : ∃ k4, k4 = xc % 4 := ⟨_, rfl⟩
          obtain ⟨k9, hk9⟩ : ∃ k9, k9 = xc % 9 := ⟨_, rfl⟩
          have M3 := Lib.hid (fun w => rmod_any xb 3 w r1 (by decide) (by decide))
          have M4 := Lib.hid (fun w => rmod_any xc 4 w r2 (by decide) (by decide))
          have M9 := Lib.hid (fun w => rmod_any xc 9 w r2 (by decide) (by decide))
          rw [← hkb] at M3
          rw [← hk4] at M4
          rw [← hk9] at M9
          have hw4 : IntKind.i64.wrap (ka + 1) = ka + 1 := IntWalk.i64_in _ (by omega)
          have hw5 : IntKind.i64.wrap (kb + k4) = kb + k4 := IntWalk.i64_in _ (by omega)
          have HKR := Lib.hid (show (0 ≤ kb ∧ kb ≤ 2) ∧ (0 ≤ k4 ∧ k4 ≤ 3) ∧ (0 ≤ k9 ∧ k9 ≤ 8) by omega)
          have HRM : Hid (runM xa xb xc = if k9 = 7 then ⟨ka + 1, kb, 200, []⟩ else if k9 = 8 then ⟨ka + 1, 1, 1, []⟩ else if kb + k4 = 0 then ⟨ka + 1, kb, 1, []⟩ else ⟨ka + 1, kb, kb + k4, []⟩) := by
            show _ = _
            rw [HKA.out, hkb, hk4, hk9]; rfl
          clear hkb hk4 hk9
          generalize madeN l j = P at *
          go_wp2_with (first | (go_at_call 25; (with_reducible refine (M11.out _).mono ?_); rintro e w' ⟨rfl, rfl⟩) | fail)
          go_wp2_with (first | (go_at_call 25; (with_reducible refine (M3.out _).mono ?_); rintro e w' ⟨rfl, rfl⟩) | fail)
          have z0 := PcRow.new wr ⟨ka + 1, kb, 0, []⟩
          have oA : Only Nob wr (wr.alloc (.cells #[.int .i64 (ka + 1), .int .i64 kb, .int .i64 0, .string ⟨#[]⟩] 31)) := Only.alloc _ _ _
          rw [show wr.alloc (.cells #[.int .i64 (ka + 1), .int .i64 kb, .int .i64 0, .string ⟨([] : List UInt8).toArray⟩] 31) = wr.alloc (.cells #[.int .i64 (ka + 1), .int .i64 kb, .int .i64 0, .string ⟨#[]⟩] 31) from rfl] at z0
          generalize wr.alloc (.cells #[.int .i64 (ka + 1), .int .i64 kb, .int .i64 0, .string ⟨#[]⟩] 31) = wA at z0 oA ⊢
          have e2A := (oA.cell (a := ⟨b, off + i2, none⟩) hb (fun h => h)).trans e2
          obtain ⟨⟨z00, z01, z02, z03⟩, zf0, zf1, zf2, zf3⟩ := z0.cells
          simp only [Nat.zero_add] at z01 z02 z03
          have y0 : PcRow (wA.setCell ⟨wr.heap.size, 2, none⟩ (.int .i64 (kb + k4))).drew wr.heap.size ⟨ka + 1, kb, kb + k4, []⟩ := z0.setm (kb + k4)
          have oS : Only (Is wr.heap.size) wA (wA.setCell ⟨wr.heap.size, 2, none⟩ (.int .i64 (kb + k4))).drew := (Only.setCell (S := Is wr.heap.size) wA ⟨wr.heap.size, 2, none⟩ _ rfl).trans (Only.drew _ _) (fun _ _ h => h)
          have hbW : b < wA.heap.size := Nat.lt_of_lt_of_le hb oA.size
          have e2S := (oS.cell (a := ⟨b, off + i2, none⟩) hbW (fun h => by have h : b = wr.heap.size := h; omega)).trans e2A
          obtain ⟨⟨y00, y01, y02, y03⟩, yf0, yf1, yf2, yf3⟩ := y0.cells
          simp only [Nat.zero_add] at y01 y02 y03
          go_region_held3 (fun w' => w'.cell? ⟨wr.heap.size, 1, none⟩ = some (.int .i64 kb) ∧ w'.cell? ⟨b, off + i2, none⟩ = some (.int .i64 xc))
            (first | exact ⟨z01, e2A⟩ | exact ⟨y01, e2S⟩ | fail)
            (first | (go_at_call 25; (with_reducible refine (M4.out _).mono ?_); rintro e w' ⟨rfl, rfl⟩) | fail)
          have HO3 := Lib.hid ((HO.out.nob oA).trans oS (fun k hk h => by have h : k = wr.heap.size := h; have := HO.out.size; omega))
          have HOW3 := Lib.hid ((HOW.out.other oA (fun _ _ h => h)).other oS (fun k hk h => by have h : k = wr.heap.size := h; have := HOW.out.lt hk; omega))
          have Y0 := Lib.hid y0
          have HBK := Lib.hid (show ∀ k, Blk (.slice oo P.length oc) k → k < wr.heap.size from fun k hk => HOW.out.lt hk)
          have HSZ : Hid ((wA.setCell ⟨wr.heap.size, 2, none⟩ (.int .i64 (kb + k4))).drew.heap.size = wA.heap.size) := by show _ = _; simp
          have HbA := Lib.hid (show wr.heap.size < wA.heap.size from lt_of_heap z0)
          clear z0 oA oS z00 z01 z02 z03 zf0 zf1 zf2 zf3 e2A e0 e1 e2 HOW y0
          generalize (wA.setCell ⟨wr.heap.size, 2, none⟩ (.int .i64 (kb + k4))).drew = w3 at *
          have hlP : P.length ≤ 10000 := by have := HMO.out.2; have := HJ.out; omega
          have hcs : k9 = 7 ∨ k9 = 8 ∨ (¬ k9 = 7 ∧ ¬ k9 = 8) := by omega
          rcases hcs with rfl | rfl | ⟨h7, h8⟩
          · have oS5 : Only (Is wr.heap.size) w3 (w3.setCell ⟨wr.heap.size, 2, none⟩ (.int .i64 200)) := Only.setCell (S := Is wr.heap.size) w3 ⟨wr.heap.size, 2, none⟩ _ rfl
            have oA5 : Only Nob (w3.setCell ⟨wr.heap.size, 2, none⟩ (.int .i64 200)) ((w3.setCell ⟨wr.heap.size, 2, none⟩ (.int .i64 200)).alloc (.cells #[.int .i64 (ka + 1), .int .i64 kb, .int .i64 200, .string ⟨#[]⟩] 31)) := Only.alloc _ _ _
            have z5 := PcRow.new (w3.setCell ⟨wr.heap.size, 2, none⟩ (.int .i64 200)) ⟨ka + 1, kb, 200, []⟩
            rw [show (w3.setCell ⟨wr.heap.size, 2, none⟩ (.int .i64 200)).heap.size = w3.heap.size by simp] at z5
            have hownB := (HOW3.out.other oS5 (fun k hk h => by have h : k = wr.heap.size := h; have := HBK.out k hk; omega)).other oA5 (fun _ _ h => h)
            have HOB := Lib.hid ((HO3.out.trans oS5 (fun k hk h => by have h : k = wr.heap.size := h; have := HO.out.size; omega)).trans oA5 (fun _ _ h => h))
            have hHR : Hid (runM xa xb xc = ⟨ka + 1, kb, 200, []⟩) := by
              show _ = _
              rw [HRM.out]; rw [if_pos rfl]
            clear oS5 oA5 HRM
            go_wp2_with (first | (go_at_call 25; (with_reducible refine (M9.out _).mono ?_); rintro e w' ⟨rfl, rfl⟩) | (at_builtin; refine wpList_append_pc rfl _ _ rfl _ _ rfl hownB _ _ rfl z5 hlP ?_) | fail)
            intro v' w' ho' on' hb'
            have HZ := Lib.hid (show MdRel w l v' (.int .i64 ((i + 3 : Nat) : Int)) w' from by
              have h1 := HIJ.out
              have h2 := HI2.out
              refine ⟨j + 1, i + 3, rfl, by omega, by omega, by omega, by rw [HST.out, hHR.out]; exact ho', fun k hk => ?_, HOB.out.trans on' (fun k hk hx => ?_)⟩
              · rcases hb' k hk with h | h
                · exact HN.out k h
                · have := HO.out.size
                  have := HSZ.out
                  have := HbA.out
                  omega
              · have := HN.out k hx
                omega)
            obtain ⟨o3, oc3, rfl⟩ := ho'.form
            clear ho' on' hb'
            go_wp2_with fail
            go_roundw
            case rel => exact HZ.out
            case measure => simp [intOf]; omega
          · have oS5 : Only (Is wr.heap.size) w3 ((w3.setCell ⟨wr.heap.size, 1, none⟩ (.int .i64 1)).setCell ⟨wr.heap.size, 2, none⟩ (.int .i64 1)) := (Only.setCell (S := Is wr.heap.size) w3 ⟨wr.heap.size, 1, none⟩ _ rfl).trans (Only.setCell (S := Is wr.heap.size) _ ⟨wr.heap.size, 2, none⟩ _ rfl) (fun _ _ h => h)
            have oA5 : Only Nob ((w3.setCell ⟨wr.heap.size, 1, none⟩ (.int .i64 1)).setCell ⟨wr.heap.size, 2, none⟩ (.int .i64 1)) (((w3.setCell ⟨wr.heap.size, 1, none⟩ (.int .i64 1)).setCell ⟨wr.heap.size, 2, none⟩ (.int .i64 1)).alloc (.cells #[.int .i64 (ka + 1), .int .i64 1, .int .i64 1, .string ⟨#[]⟩] 31)) := Only.alloc _ _ _
            have z5 := PcRow.new ((w3.setCell ⟨wr.heap.size, 1, none⟩ (.int .i64 1)).setCell ⟨wr.heap.size, 2, none⟩ (.int .i64 1)) ⟨ka + 1, 1, 1, []⟩
            rw [show ((w3.setCell ⟨wr.heap.size, 1, none⟩ (.int .i64 1)).setCell ⟨wr.heap.size, 2, none⟩ (.int .i64 1)).heap.size = w3.heap.size by simp] at z5
            have hownB := (HOW3.out.other oS5 (fun k hk h => by have h : k = wr.heap.size := h; have := HBK.out k hk; omega)).other oA5 (fun _ _ h => h)
            have HOB := Lib.hid ((HO3.out.trans oS5 (fun k hk h => by have h : k = wr.heap.size := h; have := HO.out.size; omega)).trans oA5 (fun _ _ h => h))
            have hHR : Hid (runM xa xb xc = ⟨ka + 1, 1, 1, []⟩) := by
              show _ = _
              rw [HRM.out]; rw [if_neg (by decide), if_pos rfl]
            clear oS5 oA5 HRM
            go_wp2_with (first | (go_at_call 25; (with_reducible refine (M9.out _).mono ?_); rintro e w' ⟨rfl, rfl⟩) | (at_builtin; refine wpList_append_pc rfl _ _ rfl _ _ rfl hownB _ _ rfl z5 hlP ?_) | fail)
            intro v' w' ho' on' hb'
            have HZ := Lib.hid (show MdRel w l v' (.int .i64 ((i + 3 : Nat) : Int)) w' from by
              have h1 := HIJ.out
              have h2 := HI2.out
              refine ⟨j + 1, i + 3, rfl, by omega, by omega, by omega, by rw [HST.out, hHR.out]; exact ho', fun k hk => ?_, HOB.out.trans on' (fun k hk hx => ?_)⟩
              · rcases hb' k hk with h | h
                · exact HN.out k h
                · have := HO.out.size
                  have := HSZ.out
                  have := HbA.out
                  omega
              · have := HN.out k hx
                omega)
            obtain ⟨o3, oc3, rfl⟩ := ho'.form
            clear ho' on' hb'
            go_wp2_with fail
            go_roundw
            case rel => exact HZ.out
            case measure => simp [intOf]; omega
          · by_cases hs0 : kb + k4 = 0
            · have oS5 : Only (Is wr.heap.size) w3 (w3.setCell ⟨wr.heap.size, 2, none⟩ (.int .i64 1)) := Only.setCell (S := Is wr.heap.size) w3 ⟨wr.heap.size, 2, none⟩ _ rfl
              have oA5 : Only Nob (w3.setCell ⟨wr.heap.size, 2, none⟩ (.int .i64 1)) ((w3.setCell ⟨wr.heap.size, 2, none⟩ (.int .i64 1)).alloc (.cells #[.int .i64 (ka + 1), .int .i64 kb, .int .i64 1, .string ⟨#[]⟩] 31)) := Only.alloc _ _ _
              have z5 := PcRow.new (w3.setCell ⟨wr.heap.size, 2, none⟩ (.int .i64 1)) ⟨ka + 1, kb, 1, []⟩
              rw [show (w3.setCell ⟨wr.heap.size, 2, none⟩ (.int .i64 1)).heap.size = w3.heap.size by simp] at z5
              have hownB := (HOW3.out.other oS5 (fun k hk h => by have h : k = wr.heap.size := h; have := HBK.out k hk; omega)).other oA5 (fun _ _ h => h)
              have HOB := Lib.hid ((HO3.out.trans oS5 (fun k hk h => by have h : k = wr.heap.size := h; have := HO.out.size; omega)).trans oA5 (fun _ _ h => h))
              have hHR : Hid (runM xa xb xc = ⟨ka + 1, kb, 1, []⟩) := by
                show _ = _
                rw [HRM.out]; rw [if_neg h7, if_neg h8, if_pos hs0]
              clear oS5 oA5 HRM
              go_wp2_with (first | (go_at_call 25; (with_reducible refine (M9.out _).mono ?_); rintro e w' ⟨rfl, rfl⟩) | (at_builtin; refine wpList_append_pc rfl _ _ rfl _ _ rfl hownB _ _ rfl z5 hlP ?_) | fail)
              intro v' w' ho' on' hb'
              have HZ := Lib.hid (show MdRel w l v' (.int .i64 ((i + 3 : Nat) : Int)) w' from by
                have h1 := HIJ.out
                have h2 := HI2.out
                refine ⟨j + 1, i + 3, rfl, by omega, by omega, by omega, by rw [HST.out, hHR.out]; exact ho', fun k hk => ?_, HOB.out.trans on' (fun k hk hx => ?_)⟩
                · rcases hb' k hk with h | h
                  · exact HN.out k h
                  · have := HO.out.size
                    have := HSZ.out
                    have := HbA.out
                    omega
                · have := HN.out k hx
                  omega)
              obtain ⟨o3, oc3, rfl⟩ := ho'.form
              clear ho' on' hb'
              go_wp2_with fail
              go_roundw
              case rel => exact HZ.out
              case measure => simp [intOf]; omega
            · have oS5 : Only (Is wr.heap.size) w3 (w3) := Only.refl _ _
              have oA5 : Only Nob (w3) ((w3).alloc (.cells #[.int .i64 (ka + 1), .int .i64 kb, .int .i64 (kb + k4), .string ⟨#[]⟩] 31)) := Only.alloc _ _ _
              have z5 := PcRow.new (w3) ⟨ka + 1, kb, kb + k4, []⟩
              rw [show (w3).heap.size = w3.heap.size by simp] at z5
              have hownB := (HOW3.out.other oS5 (fun k hk h => by have h : k = wr.heap.size := h; have := HBK.out k hk; omega)).other oA5 (fun _ _ h => h)
              have HOB := Lib.hid ((HO3.out.trans oS5 (fun k hk h => by have h : k = wr.heap.size := h; have := HO.out.size; omega)).trans oA5 (fun _ _ h => h))
              have hHR : Hid (runM xa xb xc = ⟨ka + 1, kb, kb + k4, []⟩) := by
                show _ = _
                rw [HRM.out]; rw [if_neg h7, if_neg h8, if_neg hs0]
              clear oS5 oA5 HRM
              go_wp2_with (first | (go_at_call 25; (with_reducible refine (M9.out _).mono ?_); rintro e w' ⟨rfl, rfl⟩) | (at_builtin; refine wpList_append_pc rfl _ _ rfl _ _ rfl hownB _ _ rfl z5 hlP ?_) | fail)
              intro v' w' ho' on' hb'
              have HZ := Lib.hid (show MdRel w l v' (.int .i64 ((i + 3 : Nat) : Int)) w' from by
                have h1 := HIJ.out
                have h2 := HI2.out
                refine ⟨j + 1, i + 3, rfl, by omega, by omega, by omega, by rw [HST.out, hHR.out]; exact ho', fun k hk => ?_, HOB.out.trans on' (fun k hk hx => ?_)⟩
                · rcases hb' k hk with h | h
                  · exact HN.out k h
                  · have := HO.out.size
                    have := HSZ.out
                    have := HbA.out
                    omega
                · have := HN.out k hx
                  omega)
              obtain ⟨o3, oc3, rfl⟩ := ho'.form
              clear ho' on' hb'
              go_wp2_with fail
              go_roundw
              case rel => exact HZ.out
              case measure => simp [intOf]; omega
      · have c1 : (i2 : Int) < (l.length : Int) := by omega
        have c2 : ¬ (i : Int) < 15 := by omega
        have HE : Hid (madeL l = madeN l j) := by show _ = _; unfold madeL; rw [show min 5 (l.length / 3) = j by omega]
        clear hown hnew hon
        go_wp2
        go_ret
        exact ⟨_, rfl, by rw [HE.out]; exact HOW.out, HN.out, HO.out⟩
    · have c1 : ¬ (i2 : Int) < (l.length : Int) := by omega
      have HE : Hid (madeL l = madeN l j) := by show _ = _; unfold madeL; rw [show min 5 (l.length / 3) = j by omega]
      clear hown hnew hon
      go_wp2
      go_ret
      exact ⟨_, rfl, by rw [HE.out]; exact HOW.out, HN.out, HO.out⟩

end Go.Proofs.YtddjbfmohibgbaaDoor

/- The maker of texts. -/
namespace Go.Proofs.YtddjbfmohibgbaaDoor
open Go.RowKit

def chrRow : Array Value := #[.string ⟨#[]⟩, .string ⟨#[48, 49, 56, 57]⟩, .string ⟨#[65, 90, 81]⟩, .string ⟨#[97, 122, 113]⟩, .string ⟨#[65, 90, 97, 122]⟩, .string ⟨#[32]⟩, .string ⟨#[45, 46, 43, 123]⟩, .string ⟨#[97, 48, 32, 90, 126]⟩]
theorem chr_at (w : World) {q : Nat} (h : q < 8) : (w.alloc (.cells chrRow 9)).cell? ⟨w.heap.size, q, none⟩ = some (.string ⟨(charsOf.getD q []).toArray⟩) := by
  rw [cell_of_row _ w.heap.size q _ _ _ (heap_alloc_new w (.cells chrRow 9))]
  have : q = 0 ∨ q = 1 ∨ q = 2 ∨ q = 3 ∨ q = 4 ∨ q = 5 ∨ q = 6 ∨ q = 7 := by omega
  rcases this with rfl | rfl | rfl | rfl | rfl | rfl | rfl | rfl <;> rfl

/-- Between two rounds over the pieces. -/
def SmRel (w : World) (p : List Pc) (t : List Int) (av sv iv : Value) (wr : World) : Prop :=
  ∃ i : Nat, iv = .int .i64 (i : Int) ∧ i ≤ p.length ∧ av = .int .i64 ((sampP (p.take i) t).2 : Nat) ∧ sv = .string ⟨(sampP (p.take i) t).1.toArray⟩ ∧ Only Nob w wr
/-- Between two rounds over the characters. -/
def SmIn (w : World) (x : Pc) (t : List Int) (a n : Nat) (S : List UInt8) (sv kv : Value) (wr : World) : Prop :=
  ∃ k : Nat, kv = .int .i64 (k : Int) ∧ k ≤ n ∧ sv = .string ⟨(S ++ sampR x a t k).toArray⟩ ∧ Only Nob w wr

theorem mod_slice (l : List UInt8) (e : Nat) (h : e < l.length) (w : World) : (Instr.slice 9 (.string ⟨l.toArray⟩) (some (.int .i64 (e : Int))) (some (.int .i64 ((e + 1 : Nat) : Int))) none).run Tryd.prog w = .ok (.string ⟨#[l.getD e 0]⟩) w := by
  have hg : l.getD e 0 = l[e] := getD_lt _ h
  rw [mid_slice l e (e + 1) (by omega) (by omega) w, show e + 1 - e = 1 by omega, List.drop_eq_getElem_cons h, hg]
  rfl
theorem mod_facts (z L : Nat) (h0 : 0 < L) (h5 : L ≤ 5) : ∃ e, Hid (z % L = e) ∧ e < L ∧ Hid ((z : Int) % (L : Int) = (e : Int) ∧ (z : Int).tmod (L : Int) = (e : Int) ∧ IntKind.i64.wrap ((z : Int).tmod (L : Int)) = (e : Int)) := by
  have h1 := Nat.mod_lt z h0
  have h2 : (z : Int) % (L : Int) = ((z % L : Nat) : Int) := (Int.natCast_emod z L).symm
  have h3 : (z : Int).tmod (L : Int) = ((z % L : Nat) : Int) := (Int.tmod_eq_emod_of_nonneg (Int.natCast_nonneg z)).trans h2
  generalize z % L = e at *
  rw [h3]
  refine ⟨e, rfl, h1, h2, rfl, ?_⟩
  · exact IntWalk.i64_in (e : Int) (by omega)

set_option maxRecDepth 100000 in
set_option maxHeartbeats 4000000 in
theorem sample_any (v tv : Value) (p : List Pc) (t : List Int) (w : World) (hp : Pcs w v p) (ht : IntsA w tv t) (h5 : p.length ≤ 5) (hm : ∀ x ∈ p, MadeP 15 x) :
    Calls Tryd.prog 24 #[v, tv] w fun e w' => e = .returned (.string ⟨(sampleL p t).toArray⟩) ∧ Only Nob w w' := by
  obtain ⟨ao, cap, rfl⟩ := hp.form
  obtain ⟨bo, bcap, rfl⟩ := ht.form
  have hlt := ht.1
  have oA : Only Nob w (w.alloc (.cells #[.string ⟨#[]⟩, .string ⟨#[48, 49, 56, 57]⟩, .string ⟨#[65, 90, 81]⟩, .string ⟨#[97, 122, 113]⟩, .string ⟨#[65, 90, 97, 122]⟩, .string ⟨#[32]⟩, .string ⟨#[45, 46, 43, 123]⟩, .string ⟨#[97, 48, 32, 90, 126]⟩] 9)) := Only.alloc _ _ _
  have hch := fun (q : Nat) (h : q < 8) => chr_at w h
  unfold chrRow at hch
  have hbl : w.heap.size < (w.alloc (.cells #[.string ⟨#[]⟩, .string ⟨#[48, 49, 56, 57]⟩, .string ⟨#[65, 90, 81]⟩, .string ⟨#[97, 122, 113]⟩, .string ⟨#[65, 90, 97, 122]⟩, .string ⟨#[32]⟩, .string ⟨#[45, 46, 43, 123]⟩, .string ⟨#[97, 48, 32, 90, 126]⟩] 9)).heap.size := by simp
  have OA := Lib.hid oA
  have HCH := Lib.hid (And.intro hch hbl)
  have HP := Lib.hid (hp.nob oA)
  have HT := Lib.hid (ht.nob oA)
  have HM := Lib.hid hm
  clear oA hch hbl hp ht hm
  go_enter Tryd.func24, Tryd.ntmps24
  go_wp2_with fail
  generalize w.alloc (.cells #[.string ⟨#[]⟩, .string ⟨#[48, 49, 56, 57]⟩, .string ⟨#[65, 90, 81]⟩, .string ⟨#[97, 122, 113]⟩, .string ⟨#[65, 90, 97, 122]⟩, .string ⟨#[32]⟩, .string ⟨#[45, 46, 43, 123]⟩, .string ⟨#[97, 48, 32, 90, 126]⟩] 9) = wA at *
  go_loopw [6, 7, 8] (fun av sv iv wr => SmRel wA p t av sv iv wr) (fun _ _ iv _ => p.length - (intOf iv).toNat)
  case atStart => exact ⟨0, rfl, Nat.zero_le _, rfl, rfl, Only.refl _ _⟩
  case round =>
    obtain ⟨i, rfl, hi, rfl, rfl, hon⟩ := hrel
    by_cases hlp : i < p.length
    · have kk : (i : Int) < (p.length : Int) := by omega
      obtain ⟨b, off, rfl, hb, e0, e1, e2, e3⟩ := (HP.out.nob hon).at hlp
      have hmx := HM.out _ (List.getElem_mem hlp)
      have hst := Lib.hid (show sampP (p.take (i + 1)) t = sampS t (sampP (p.take i) t) p[i] by rw [List.take_succ_eq_append_getElem hlp, sampP_snoc])
      have hsl := sample_len t 15 (p.take i) (fun y hy => HM.out y (List.mem_of_mem_take hy))
      have hal : (sampP (p.take i) t).2 ≤ 5 := Nat.le_trans hsl.2 (by rw [List.length_take]; omega)
      have hss : (sampP (p.take i) t).1.length ≤ 95 := by
        have h := hsl.1
        unfold sampleL at h
        rw [List.length_take] at h
        have h7 : min i p.length ≤ 5 := by omega
        calc _ ≤ min i p.length * (15 + 4) := h
          _ ≤ 5 * 19 := Nat.mul_le_mul_right _ h7
      obtain ⟨x, hpx⟩ : ∃ x, p[i] = x := ⟨_, rfl⟩
      rw [hpx] at hmx hst e0 e1 e2 e3
      generalize sampP (p.take i) t = st at *
      obtain ⟨S, a⟩ := st
      simp only at hal hss
      have HO := Lib.hid hon
      clear hon hsl
      by_cases hx0 : x.c = 0
      · obtain ⟨X, hX⟩ : ∃ X : ByteArray, X = ⟨S.toArray⟩ := ⟨_, rfl⟩
        obtain ⟨Y, hY⟩ : ∃ Y : ByteArray, Y = ⟨x.t.toArray⟩ := ⟨_, rfl⟩
        have hXs : X.size ≤ 95 := by rw [hX]; exact hss
        have hYs : Y.size ≤ 15 := by rw [hY]; exact hmx.2
        have s1 : ∀ w, (Op.stringOp .add X Y).run Tryd.prog w = .ok (.string (X ++ Y)) w := fun w => run_string_add_sum w _ _ (by omega)
        have HXc := Lib.hid (show (⟨(S ++ x.t).toArray⟩ : ByteArray) = X ++ Y from str_eq (by rw [hX, hY]; simp [ByteArray.data_append]))
        have HSt : Hid (sampP (p.take (i + 1)) t = (S ++ x.t, a)) := by
          show _ = _
          rw [hst.out]; unfold sampS; rw [if_pos hx0]
        simp only
        rw [hx0] at e0
        rw [← hX]
        rw [← hY] at e3
        clear hX hY hx0 hmx
        go_wp2_with fail
        go_roundw
        case rel => exact ⟨i + 1, by go_num, hlp, by rw [HSt.out], by rw [HSt.out, HXc.out], HO.out⟩
        case measure => simp [intOf]; omega
      · have hxr : runB x = true ∧ x.l ≤ 2 := hmx.1.resolve_right (fun h => hx0 (plainB_iff.1 h).1)
        have hx0' : ¬ x.c = 0 := hx0
        obtain ⟨hr, hl2⟩ := hxr
        obtain ⟨q1, q2, q3, q4, q5, q6, -⟩ := runB_iff.1 hr
        simp only
        have HSt : Hid (sampP (p.take (i + 1)) t = (S ++ sampR x (a + 1) t (sampN x a t), a + 1)) := by
          show _ = _
          rw [hst.out]; unfold sampS; rw [if_neg hx0]
        obtain ⟨cN, hcN⟩ : ∃ cN : Nat, x.c = (cN : Int) := ⟨x.c.toNat, by omega⟩
        have hc1 : 1 ≤ cN := by omega
        have hc7 : cN ≤ 7 := by omega
        have hc8 : (cN : Int) < 8 := by omega
        have hc9 : cN < 8 := by omega
        have hcz : ¬ (cN : Int) = 0 := by omega
        have HGD := Lib.hid (chars_ok (c := cN) (by omega) (by omega))
        have HCN := Lib.hid hcN
        rw [hcN] at e0
        obtain ⟨a1, ha1e⟩ : ∃ a1, a1 = a + 1 := ⟨_, rfl⟩
        have hwa : IntKind.i64.wrap ((a : Int) + 1) = (a1 : Int) := by rw [IntWalk.i64_in _ (by omega)]; omega
        obtain ⟨n, hn⟩ : ∃ n, n = sampN x a t := ⟨_, rfl⟩
        rw [← ha1e, ← hn] at HSt
        have HA1 := Lib.hid ha1e
        by_cases hat : a < t.length
        · have hat' : (a : Int) < (t.length : Int) := by omega
          have hnv : min (x.l + t.getD a 0 % 3) x.m = (n : Int) := by
            rw [hn]; unfold sampN; rw [if_pos hat]
            have := Int.emod_nonneg (t.getD a 0) (show (3 : Int) ≠ 0 by omega)
            omega
          obtain ⟨r3, hr3⟩ : ∃ r3, r3 = t.getD a 0 % 3 := ⟨_, rfl⟩
          have hr3b : 0 ≤ r3 ∧ r3 ≤ 2 := by omega
          have M3 := Lib.hid (fun w => rmod_any (t.getD a 0) 3 w (HT.out.rng a) (by decide) (by decide))
          rw [← hr3] at M3 hnv
          have hn4 : n ≤ 4 := by omega
          have hws : IntKind.i64.wrap (x.l + r3) = x.l + r3 := IntWalk.i64_in _ (by omega)
          obtain ⟨bt, ot, rfl, -, htc⟩ := (HT.out.nob HO.out).pos (by omega)
          have g0 := htc a hat
          generalize t.getD a 0 = ta0 at *
          clear hr3 hcN ha1e hn htc
          go_wp2_with fail
          go_region_held3 (fun w' => w'.cell? ⟨bt, ot + a, none⟩ = some (.int .i64 ta0) ∧ w'.cell? ⟨b, off + i * 4 + 2, none⟩ = some (.int .i64 x.m))
            (exact ⟨g0, e2⟩)
            (first | (go_at_call 25; (with_reducible refine (M3.out _).mono ?_); rintro e w' ⟨rfl, rfl⟩) | fail)
          have HO2 := Lib.hid (HO.out.nob (Only.drew Nob wr))
          have HPX := Lib.hid hpx
          clear g0 e0 e1 e2 e3 hpx
          by_cases ha1 : a1 < t.length
          · have ha1' : (a1 : Int) < (t.length : Int) := by omega
            go_wp2_with fail
            go_loopw [7, 10] (fun sv kv wr => SmIn wA x t a1 n S sv kv wr) (fun _ kv _ => n - (intOf kv).toNat)
            case atStart => exact ⟨0, rfl, Nat.zero_le _, by simp [sampR], HO2.out⟩
            case round =>
              obtain ⟨k, rfl, hk, rfl, hon⟩ := hrel
              have HO3 := Lib.hid hon
              clear hon
              by_cases hkn : k < n
              · have kn : (k : Int) < (n : Int) := by omega
                obtain ⟨b', off', hbo, -, f0, -⟩ := (HP.out.nob HO3.out).at hlp
                obtain ⟨rfl, rfl⟩ := (by simpa using hbo : b = b' ∧ off = off')
                rw [HPX.out, HCN.out] at f0
                have fc := ((HO3.out).cell (a := ⟨w.heap.size, cN, none⟩) HCH.out.2 (fun h => h)).trans (HCH.out.1 cN (by omega))
                obtain ⟨L, hL⟩ : ∃ L, L = (charsOf.getD cN []).length := ⟨_, rfl⟩
                have hgd := HGD.out
                have hR := Lib.hid (show S ++ sampR x a1 t (k + 1) = (S ++ sampR x a1 t k) ++ [sampC x a1 t k] by rw [sampR_succ, List.append_assoc])
                have hC : Hid (sampC x a1 t k = (charsOf.getD cN []).getD (sampX a1 t k % L) 0) := by
                  show _ = _
                  unfold sampC; rw [show x.c.toNat = cN by rw [HCN.out]; simp, hL]
                have hlen : (S ++ sampR x a1 t k).length ≤ 95 + 4 := by
                  rw [List.length_append]; simp [sampR]; omega
                have XX : Hid (sampX a1 t k = (t.getD a1 0 % 97).toNat + k) := by
                  show _ = _
                  unfold sampX; rw [if_pos ha1]
                obtain ⟨xn, hxn⟩ : ∃ xn : Nat, xn = (t.getD a1 0 % 97).toNat := ⟨_, rfl⟩
                have hx97 : t.getD a1 0 % 97 = (xn : Int) := by omega
                have hxr : xn ≤ 96 := by omega
                have M97 := Lib.hid (fun w => rmod_any (t.getD a1 0) 97 w (HT.out.rng a1) (by decide) (by decide))
                rw [hx97] at M97
                obtain ⟨z, hz⟩ : ∃ z : Nat, z = xn + k := ⟨_, rfl⟩
                have hzw : IntKind.i64.wrap ((xn : Int) + (k : Int)) = (z : Int) := by rw [IntWalk.i64_in _ (by omega)]; omega
                have ZZ : Hid (sampX a1 t k = z) := by
                  show _ = _
                  rw [XX.out, ← hxn, hz]
                obtain ⟨b2, off2, hbo2, -, htc⟩ := (HT.out.nob HO3.out).pos (by omega)
                obtain ⟨rfl, rfl⟩ := (by simpa using hbo2 : bt = b2 ∧ ot = off2)
                have g1 := htc a1 ha1
                generalize t.getD a1 0 = ta at *
                clear hx97 hxn hz hbo2 htc
                have hL0 : 0 < L := by rw [hL]; exact hgd.1
                have hL5 : L ≤ 5 := by rw [hL]; exact hgd.2.1
                have hLz : ¬ (L : Int) = 0 := by omega
                have hLn : ¬ L = 0 := by omega
                have hLb : ((L : Int) == 0) = false := by simpa using hLn
                obtain ⟨e, he, heL, hmm⟩ := mod_facts z L hL0 hL5
                obtain ⟨e1, he1⟩ : ∃ e1, e1 = e + 1 := ⟨_, rfl⟩
                have hwe : IntKind.i64.wrap ((e : Int) + 1) = (e1 : Int) := by rw [IntWalk.i64_in _ (by omega)]; omega
                have hD : Hid (sampC x a1 t k = (charsOf.getD cN []).getD e 0) := by
                  show _ = _
                  rw [hC.out, ZZ.out, he.out]
                obtain ⟨CB, hCB⟩ : ∃ CB : ByteArray, CB = ⟨(charsOf.getD cN []).toArray⟩ := ⟨_, rfl⟩
                obtain ⟨SB, hSB⟩ : ∃ SB : ByteArray, SB = ⟨(S ++ sampR x a1 t k).toArray⟩ := ⟨_, rfl⟩
                obtain ⟨DB, hDB⟩ : ∃ DB : ByteArray, DB = ⟨#[(charsOf.getD cN []).getD e 0]⟩ := ⟨_, rfl⟩
                have hCs : CB.size = L := by rw [hCB, hL]; rfl
                have hSs : SB.size ≤ 99 := by rw [hSB]; exact hlen
                have hDs : DB.size = 1 := by rw [hDB]; rfl
                have sl : ∀ w, (Instr.slice 9 (.string CB) (some (.int .i64 (e : Int))) (some (.int .i64 (e1 : Int))) none).run Tryd.prog w = .ok (.string DB) w := fun w => by
                  rw [hCB, hDB, he1]; exact mod_slice _ e (hL ▸ heL) w
                have s1 : ∀ w, (Op.stringOp .add SB DB).run Tryd.prog w = .ok (.string (SB ++ DB)) w := fun w => run_string_add_sum w _ _ (by omega)
                have HXc := Lib.hid (show (⟨(S ++ sampR x a1 t (k + 1)).toArray⟩ : ByteArray) = SB ++ DB from str_eq (by rw [hR.out, hD.out, hSB, hDB]; simp [ByteArray.data_append]))
                rw [← hSB]
                rw [← hCB] at fc
                clear hSB hCB hDB he1 he hgd hL hR hD hC ZZ hDs
                obtain ⟨hm0, hm2, hm3⟩ := hmm.out
                go_wp2_with (first | (go_at_call 25; (with_reducible refine (M97.out _).mono ?_); rintro e w' ⟨rfl, rfl⟩) | fail)
                go_region_held3 (fun _ => True) (trivial) (fail)
                go_wp2_with fail
                go_roundw
                case rel => exact ⟨k + 1, by go_num, by omega, by rw [HXc.out], HO3.out.nob (Only.drew Nob _)⟩
                case measure => simp [intOf]; omega
              · obtain rfl : k = n := by omega
                go_wp2_with fail
                go_roundw
                case rel => exact ⟨i + 1, by go_num, hlp, by rw [HSt.out], by rw [HSt.out], HO3.out⟩
                case measure => simp [intOf]; omega
          · have ha1' : ¬ (a1 : Int) < (t.length : Int) := by omega
            go_wp2_with fail
            go_loopw [7, 10] (fun sv kv wr => SmIn wA x t a1 n S sv kv wr) (fun _ kv _ => n - (intOf kv).toNat)
            case atStart => exact ⟨0, rfl, Nat.zero_le _, by simp [sampR], HO2.out⟩
            case round =>
              obtain ⟨k, rfl, hk, rfl, hon⟩ := hrel
              have HO3 := Lib.hid hon
              clear hon
              by_cases hkn : k < n
              · have kn : (k : Int) < (n : Int) := by omega
                obtain ⟨b', off', hbo, -, f0, -⟩ := (HP.out.nob HO3.out).at hlp
                obtain ⟨rfl, rfl⟩ := (by simpa using hbo : b = b' ∧ off = off')
                rw [HPX.out, HCN.out] at f0
                have fc := ((HO3.out).cell (a := ⟨w.heap.size, cN, none⟩) HCH.out.2 (fun h => h)).trans (HCH.out.1 cN (by omega))
                obtain ⟨L, hL⟩ : ∃ L, L = (charsOf.getD cN []).length := ⟨_, rfl⟩
                have hgd := HGD.out
                have hR := Lib.hid (show S ++ sampR x a1 t (k + 1) = (S ++ sampR x a1 t k) ++ [sampC x a1 t k] by rw [sampR_succ, List.append_assoc])
                have hC : Hid (sampC x a1 t k = (charsOf.getD cN []).getD (sampX a1 t k % L) 0) := by
                  show _ = _
                  unfold sampC; rw [show x.c.toNat = cN by rw [HCN.out]; simp, hL]
                have hlen : (S ++ sampR x a1 t k).length ≤ 95 + 4 := by
                  rw [List.length_append]; simp [sampR]; omega
                have ZZ : Hid (sampX a1 t k = k) := by
                  show _ = _
                  unfold sampX; rw [if_neg ha1]
                have hL0 : 0 < L := by rw [hL]; exact hgd.1
                have hL5 : L ≤ 5 := by rw [hL]; exact hgd.2.1
                have hLz : ¬ (L : Int) = 0 := by omega
                have hLn : ¬ L = 0 := by omega
                have hLb : ((L : Int) == 0) = false := by simpa using hLn
                obtain ⟨e, he, heL, hmm⟩ := mod_facts k L hL0 hL5
                obtain ⟨e1, he1⟩ : ∃ e1, e1 = e + 1 := ⟨_, rfl⟩
                have hwe : IntKind.i64.wrap ((e : Int) + 1) = (e1 : Int) := by rw [IntWalk.i64_in _ (by omega)]; omega
                have hD : Hid (sampC x a1 t k = (charsOf.getD cN []).getD e 0) := by
                  show _ = _
                  rw [hC.out, ZZ.out, he.out]
                obtain ⟨CB, hCB⟩ : ∃ CB : ByteArray, CB = ⟨(charsOf.getD cN []).toArray⟩ := ⟨_, rfl⟩
                obtain ⟨SB, hSB⟩ : ∃ SB : ByteArray, SB = ⟨(S ++ sampR x a1 t k).toArray⟩ := ⟨_, rfl⟩
                obtain ⟨DB, hDB⟩ : ∃ DB : ByteArray, DB = ⟨#[(charsOf.getD cN []).getD e 0]⟩ := ⟨_, rfl⟩
                have hCs : CB.size = L := by rw [hCB, hL]; rfl
                have hSs : SB.size ≤ 99 := by rw [hSB]; exact hlen
                have hDs : DB.size = 1 := by rw [hDB]; rfl
                have sl : ∀ w, (Instr.slice 9 (.string CB) (some (.int .i64 (e : Int))) (some (.int .i64 (e1 : Int))) none).run Tryd.prog w = .ok (.string DB) w := fun w => by
                  rw [hCB, hDB, he1]; exact mod_slice _ e (hL ▸ heL) w
                have s1 : ∀ w, (Op.stringOp .add SB DB).run Tryd.prog w = .ok (.string (SB ++ DB)) w := fun w => run_string_add_sum w _ _ (by omega)
                have HXc := Lib.hid (show (⟨(S ++ sampR x a1 t (k + 1)).toArray⟩ : ByteArray) = SB ++ DB from str_eq (by rw [hR.out, hD.out, hSB, hDB]; simp [ByteArray.data_append]))
                rw [← hSB]
                rw [← hCB] at fc
                clear hSB hCB hDB he1 he hgd hL hR hD hC ZZ hDs
                obtain ⟨hm0, hm2, hm3⟩ := hmm.out
                go_wp2_with fail
                go_region_held3 (fun _ => True) (trivial) (fail)
                go_wp2_with fail
                go_roundw
                case rel => exact ⟨k + 1, by go_num, by omega, by rw [HXc.out], HO3.out.nob (Only.drew Nob _)⟩
                case measure => simp [intOf]; omega
              · obtain rfl : k = n := by omega
                go_wp2_with fail
                go_roundw
                case rel => exact ⟨i + 1, by go_num, hlp, by rw [HSt.out], by rw [HSt.out], HO3.out⟩
                case measure => simp [intOf]; omega
        · have hat' : ¬ (a : Int) < (t.length : Int) := by omega
          have hnv : x.l = (n : Int) := by
            rw [hn]; unfold sampN; rw [if_neg hat]
            omega
          have hn4 : n ≤ 4 := by omega
          have ha1 : ¬ a1 < t.length := by omega
          have ha1' : ¬ (a1 : Int) < (t.length : Int) := by omega
          rw [hnv] at e1
          have HO2 := Lib.hid HO.out
          have HPX := Lib.hid hpx
          clear hcN ha1e hn hpx hnv
          go_wp2_with fail
          go_loopw [7, 10] (fun sv kv wr => SmIn wA x t a1 n S sv kv wr) (fun _ kv _ => n - (intOf kv).toNat)
          case atStart => exact ⟨0, rfl, Nat.zero_le _, by simp [sampR], HO2.out⟩
          case round =>
            obtain ⟨k, rfl, hk, rfl, hon⟩ := hrel
            have HO3 := Lib.hid hon
            clear hon
            by_cases hkn : k < n
            · have kn : (k : Int) < (n : Int) := by omega
              obtain ⟨b', off', hbo, -, f0, -⟩ := (HP.out.nob HO3.out).at hlp
              obtain ⟨rfl, rfl⟩ := (by simpa using hbo : b = b' ∧ off = off')
              rw [HPX.out, HCN.out] at f0
              have fc := ((HO3.out).cell (a := ⟨w.heap.size, cN, none⟩) HCH.out.2 (fun h => h)).trans (HCH.out.1 cN (by omega))
              obtain ⟨L, hL⟩ : ∃ L, L = (charsOf.getD cN []).length := ⟨_, rfl⟩
              have hgd := HGD.out
              have hR := Lib.hid (show S ++ sampR x a1 t (k + 1) = (S ++ sampR x a1 t k) ++ [sampC x a1 t k] by rw [sampR_succ, List.append_assoc])
              have hC : Hid (sampC x a1 t k = (charsOf.getD cN []).getD (sampX a1 t k % L) 0) := by
                show _ = _
                unfold sampC; rw [show x.c.toNat = cN by rw [HCN.out]; simp, hL]
              have hlen : (S ++ sampR x a1 t k).length ≤ 95 + 4 := by
                rw [List.length_append]; simp [sampR]; omega
              have ZZ : Hid (sampX a1 t k = k) := by
                show _ = _
                unfold sampX; rw [if_neg ha1]
              have hL0 : 0 < L := by rw [hL]; exact hgd.1
              have hL5 : L ≤ 5 := by rw [hL]; exact hgd.2.1
              have hLz : ¬ (L : Int) = 0 := by omega
              have hLn : ¬ L = 0 := by omega
              have hLb : ((L : Int) == 0) = false := by simpa using hLn
              obtain ⟨e, he, heL, hmm⟩ := mod_facts k L hL0 hL5
              obtain ⟨e1, he1⟩ : ∃ e1, e1 = e + 1 := ⟨_, rfl⟩
              have hwe : IntKind.i64.wrap ((e : Int) + 1) = (e1 : Int) := by rw [IntWalk.i64_in _ (by omega)]; omega
              have hD : Hid (sampC x a1 t k = (charsOf.getD cN []).getD e 0) := by
                show _ = _
                rw [hC.out, ZZ.out, he.out]
              obtain ⟨CB, hCB⟩ : ∃ CB : ByteArray, CB = ⟨(charsOf.getD cN []).toArray⟩ := ⟨_, rfl⟩
              obtain ⟨SB, hSB⟩ : ∃ SB : ByteArray, SB = ⟨(S ++ sampR x a1 t k).toArray⟩ := ⟨_, rfl⟩
              obtain ⟨DB, hDB⟩ : ∃ DB : ByteArray, DB = ⟨#[(charsOf.getD cN []).getD e 0]⟩ := ⟨_, rfl⟩
              have hCs : CB.size = L := by rw [hCB, hL]; rfl
              have hSs : SB.size ≤ 99 := by rw [hSB]; exact hlen
              have hDs : DB.size = 1 := by rw [hDB]; rfl
              have sl : ∀ w, (Instr.slice 9 (.string CB) (some (.int .i64 (e : Int))) (some (.int .i64 (e1 : Int))) none).run Tryd.prog w = .ok (.string DB) w := fun w => by
                rw [hCB, hDB, he1]; exact mod_slice _ e (hL ▸ heL) w
              have s1 : ∀ w, (Op.stringOp .add SB DB).run Tryd.prog w = .ok (.string (SB ++ DB)) w := fun w => run_string_add_sum w _ _ (by omega)
              have HXc := Lib.hid (show (⟨(S ++ sampR x a1 t (k + 1)).toArray⟩ : ByteArray) = SB ++ DB from str_eq (by rw [hR.out, hD.out, hSB, hDB]; simp [ByteArray.data_append]))
              rw [← hSB]
              rw [← hCB] at fc
              clear hSB hCB hDB he1 he hgd hL hR hD hC ZZ hDs
              obtain ⟨hm0, hm2, hm3⟩ := hmm.out
              go_wp2_with fail
              go_region_held3 (fun _ => True) (trivial) (fail)
              go_wp2_with fail
              go_roundw
              case rel => exact ⟨k + 1, by go_num, by omega, by rw [HXc.out], HO3.out.nob (Only.drew Nob _)⟩
              case measure => simp [intOf]; omega
            · obtain rfl : k = n := by omega
              go_wp2_with fail
              go_roundw
              case rel => exact ⟨i + 1, by go_num, hlp, by rw [HSt.out], by rw [HSt.out], HO3.out⟩
              case measure => simp [intOf]; omega
    · obtain rfl : i = p.length := by omega
      rw [List.take_of_length_le (Nat.le_refl _)]
      go_wp2
      go_ret
      exact ⟨rfl, OA.out.nob hon⟩

end Go.Proofs.YtddjbfmohibgbaaDoor
