/- The walk of PatternFinds. -/
import Derived.Test.YtddjbfmohibgbaaDoorSamplesW
import Derived.Test.YtddjbfmohibgbaaDoorPiecA
import Derived.Test.YtddjbfmohibgbaaDoorREndA
import Derived.Test.YtddjbfmohibgbaaDoorFndA
import Derived.Deep.DeepCutAuto
import Derived.Test.YtddjbfmohibgbaaDoorRFnd
namespace Go.Proofs.YtddjbfmohibgbaaDoor
open Go.RowKit

theorem dl_size (X : ByteArray) : X.data.toList.length = X.size := rfl
theorem find_b (v : Value) (p : List Pc) (X : ByteArray) (n : Int) (w : World) (hp : Pcs w v p) (fp : Fair p) (ht : Tab w) (hs : X.size ≤ 1000) : Calls Tryd.prog 32 #[v, .string X, .int .i64 n] w fun e w' => e = .returned (findV (findR (findsL p X.data.toList) n)) ∧ Only Nob w w' :=
  find_any v p X.data.toList n w hp fp ht (by rw [dl_size]; exact hs)
theorem rfind_b (v : Value) (p : List Pc) (X : ByteArray) (n : Int) (w : World) (hp : Pcs w v p) (fp : Fair p) (hs : X.size ≤ 1000) (hn : Rng n) : Calls Tryd.prog 33 #[v, .string X, .int .i64 n] w fun e w' => e = .returned (findV (findR (findsL p X.data.toList) n)) ∧ Only Nob w w' :=
  rfind_any v p X.data.toList n w hp fp (by rw [dl_size]; exact hs) hn
theorem count_b (v : Value) (p : List Pc) (X : ByteArray) (w : World) (hp : Pcs w v p) (fp : Fair p) (ht : Tab w) (hs : X.size ≤ 1000) : Calls Tryd.prog 34 #[v, .string X] w fun e w' => e = .returned (.int .i64 ((findsL p X.data.toList).length : Nat)) ∧ Only Nob w w' :=
  count_finds v p X.data.toList w hp fp ht (by rw [dl_size]; exact hs)
theorem rcount_b (v : Value) (p : List Pc) (X : ByteArray) (w : World) (hp : Pcs w v p) (fp : Fair p) (hs : X.size ≤ 1000) : Calls Tryd.prog 35 #[v, .string X] w fun e w' => e = .returned (.int .i64 ((findsL p X.data.toList).length : Nat)) ∧ Only Nob w w' :=
  rcount_finds v p X.data.toList w hp fp (by rw [dl_size]; exact hs)

set_option maxRecDepth 100000 in
set_option maxHeartbeats 16000000 in
theorem finds_law (v : Value) (l : List Int) (tv : Value) (t : List Int) (qv : Value) (q : Int × UInt8 × List UInt8) (w : World) (hl : IntsA w v l) (ht : IntsA w tv t) (hq : EditA qv q) (tab : Tab w) : Calls Tryd.prog 9 #[v, tv, qv] w (BoolPost true w) := by
  obtain ⟨qa, qb, qt⟩ := q
  obtain ⟨rfl, hqr, hql⟩ := hq
  simp only at hqr hql
  obtain ⟨ao, cap, rfl⟩ := hl.form
  obtain ⟨tao, tcap, rfl⟩ := ht.form
  have oB : Only Nob w (w.alloc (.cells #[.int .i64 qa, .int .u8 qb.toNat, .string ⟨qt.toArray⟩] 38)) := Only.alloc _ _ _
  have h38 := heap_alloc_new w (.cells #[.int .i64 qa, .int .u8 qb.toNat, .string ⟨qt.toArray⟩] 38)
  have HT := Lib.hid tab
  have HL := Lib.hid hl
  have HI := Lib.hid ht
  have HB := Lib.hid (And.intro h38 oB)
  have HQR := Lib.hid hqr
  clear tab hl ht oB h38 hqr
  go_enter Tryd.func9, Tryd.ntmps9
  go_wp2_with fail
  obtain ⟨w0, hw0⟩ : ∃ w0, w0 = w.alloc (.cells #[.int .i64 qa, .int .u8 qb.toNat, .string ⟨qt.toArray⟩] 38) := ⟨_, rfl⟩
  rw [← hw0] at HB ⊢
  clear hw0
  refine (sanity_any w0 (HT.out.other HB.out.2)).mono ?_
  rintro e w1 ⟨rfl, o1⟩
  have BQ := Lib.hid ((o1.block _ (lt_of_heap HB.out.1) (fun h => h)).trans HB.out.1)
  have O1 := Lib.hid (HB.out.2.nob o1)
  clear o1 HB
  go_wp2_with fail
  refine (made_law _ l w1 (HL.out.nob O1.out)).mono ?_
  rintro e w2 ⟨pa, pc, rfl, hp, o2⟩
  have BQ2 := Lib.hid ((o2.block _ (lt_of_heap BQ.out) (fun h => h)).trans BQ.out)
  have HP2 := Lib.hid hp
  have O2 := Lib.hid (O1.out.nob o2)
  clear o2 hp O1 BQ
  go_wp2_with fail
  refine (sample_law _ _ l t w2 HP2.out (HI.out.nob O2.out)).mono ?_
  rintro e w4 ⟨rfl, o4⟩
  have q4 := (o4.block _ (lt_of_heap BQ2.out) (fun h => h)).trans BQ2.out
  have HP4 := Lib.hid (HP2.out.nob o4)
  have O4 := Lib.hid (O2.out.nob o4)
  have HFP := Lib.hid (made_facts l).2.2
  have hs1 := (sample_facts l t).1
  clear o4 HP2 O2 BQ2
  generalize sampleL (madeL l) t = S0 at *
  generalize madeL l = P at *
  have K1 := Lib.hid (fun w => cut_any S0 60 w (by decide) (by omega))
  have K2 := Lib.hid (fun w => cut_any qt 60 w (by decide) hql)
  have K3 := Lib.hid (fun w => cut_any qt 210 w (by decide) hql)
  have hs2 : (S0.take 60).length ≤ 60 := by simp; omega
  have hs3 : (qt.take 60).length ≤ 60 := by simp; omega
  have hs4 : (qt.take 210).length ≤ 210 := by simp; omega
  obtain ⟨SB, hSB⟩ : ∃ SB : ByteArray, SB = ⟨(S0.take 60).toArray⟩ := ⟨_, rfl⟩
  obtain ⟨QB6, hQ6⟩ : ∃ Q : ByteArray, Q = ⟨(qt.take 60).toArray⟩ := ⟨_, rfl⟩
  obtain ⟨QB2, hQ2⟩ : ∃ Q : ByteArray, Q = ⟨(qt.take 210).toArray⟩ := ⟨_, rfl⟩
  obtain ⟨CB, hCB⟩ : ∃ CB : ByteArray, CB = ⟨#[qb]⟩ := ⟨_, rfl⟩
  have z1 : SB.size ≤ 60 := by rw [hSB]; exact hs2
  have z2 : QB6.size ≤ 60 := by rw [hQ6]; exact hs3
  have z3 : QB2.size ≤ 210 := by rw [hQ2]; exact hs4
  have z4 : CB.size = 1 := by rw [hCB]; rfl
  rw [← hSB] at K1
  rw [← hQ6] at K2
  rw [← hQ2] at K3
  have z5 : (QB6 ++ SB).size ≤ 120 := by rw [ByteArray.size_append]; omega
  have z6 : (QB6 ++ SB ++ CB).size ≤ 121 := by rw [ByteArray.size_append]; omega
  have z7 : (QB6 ++ SB ++ CB ++ SB).size ≤ 181 := by rw [ByteArray.size_append]; omega
  have ad1 : ∀ w, (Op.stringOp .add QB6 SB).run Tryd.prog w = .ok (.string (QB6 ++ SB)) w := fun w => run_string_add_sum w _ _ (by omega)
  have ad2 : ∀ w, (Op.stringOp .add (QB6 ++ SB) CB).run Tryd.prog w = .ok (.string (QB6 ++ SB ++ CB)) w := fun w => run_string_add_sum w _ _ (by omega)
  have ad3 : ∀ w, (Op.stringOp .add (QB6 ++ SB ++ CB) SB).run Tryd.prog w = .ok (.string (QB6 ++ SB ++ CB ++ SB)) w := fun w => run_string_add_sum w _ _ (by omega)
  have HX0 : Hid ((QB6 ++ SB ++ CB ++ SB).size ≤ 1000) := by show _ ≤ _; omega
  have HX1 : Hid (SB.size ≤ 1000) := by show _ ≤ _; omega
  have HX2 : Hid (QB2.size ≤ 1000) := by show _ ≤ _; omega
  have e0 : w4.cell? ⟨w.heap.size, 0, none⟩ = some (.int .i64 qa) := by simp [World.cell?, q4]
  have e1 : w4.cell? ⟨w.heap.size, 1, none⟩ = some (.int .u8 qb.toNat) := by simp [World.cell?, q4]
  have e2 : w4.cell? ⟨w.heap.size, 2, none⟩ = some (.string ⟨qt.toArray⟩) := by simp [World.cell?, q4]
  have hbq := lt_of_heap q4
  clear hSB hQ6 hQ2 z1 z2 z3 z4 z5 z6 z7 hs1 hs2 hs3 hs4 q4
  obtain ⟨wB, hwB⟩ : ∃ wB, wB = w4.alloc (.cells #[.int .u8 qb.toNat] 5) := ⟨_, rfl⟩
  have b0 : wB.cell? ⟨w4.heap.size, 0, none⟩ = some (.int .u8 qb.toNat) := by rw [hwB]; exact (Boxed.new w4 5 (.int .u8 qb.toNat)).cell
  have oB : Only Nob w4 wB := by rw [hwB]; exact Only.alloc _ _ _
  have cv := conv_one qb wB w4.heap.size b0
  have cv2 := conv_one qb wB.drew w4.heap.size b0
  rw [← hCB] at cv cv2
  have f0 := (oB.cell (a := ⟨w.heap.size, 0, none⟩) hbq (fun h => h)).trans e0
  have f1 := (oB.cell (a := ⟨w.heap.size, 1, none⟩) hbq (fun h => h)).trans e1
  have f2 := (oB.cell (a := ⟨w.heap.size, 2, none⟩) hbq (fun h => h)).trans e2
  rw [hwB] at cv cv2 f0 f1 f2
  have OB := Lib.hid oB
  have HWB := Lib.hid hwB
  clear b0 oB hwB hCB
  go_upto_region 4 with (first | (go_at_call 20; refine (K1.out _).mono ?_; rintro e w' ⟨rfl, rfl⟩) | fail)
  obtain ⟨X0, hX0⟩ : ∃ X, X = QB6 ++ SB ++ CB ++ SB := ⟨_, rfl⟩
  rw [← hX0] at HX0
  have HXX0 := Lib.hid hX0
  clear hX0
  go_cut [10] (fun s10 wx => s10 = .string X0 ∧ Only Nob w4 wx)
  case first =>
    have e1d : w4.drew.cell? ⟨w.heap.size, 1, none⟩ = some (.int .u8 qb.toNat) := e1
    have e2d : w4.drew.cell? ⟨w.heap.size, 2, none⟩ = some (.string ⟨qt.toArray⟩) := e2
    have f1d : (w4.alloc (.cells #[.int .u8 qb.toNat] 5)).drew.cell? ⟨w.heap.size, 1, none⟩ = some (.int .u8 qb.toNat) := f1
    have f2d : (w4.alloc (.cells #[.int .u8 qb.toNat] 5)).drew.cell? ⟨w.heap.size, 2, none⟩ = some (.string ⟨qt.toArray⟩) := f2
    have cvd : (convert 41 9 (.slice (some ⟨w4.heap.size, 0, none⟩) 1 1)).run Tryd.prog (w4.alloc (.cells #[.int .u8 qb.toNat] 5)).drew = .ok (.string CB) (w4.alloc (.cells #[.int .u8 qb.toNat] 5)).drew := cv2
    have OAD := Lib.hid (show Only Nob w4 (w4.alloc (.cells #[.int .u8 qb.toNat] 5)).drew from (Only.alloc _ _ _).nob (Only.drew _ _))
    clear cv2 f0 e0
    go_region_with (first | (go_at_call 20; refine (K2.out _).mono ?_; rintro e w' ⟨rfl, rfl⟩) | fail)
    all_goals
      go_wp2_with fail
      go_meet
      exact ⟨by rw [HXX0.out], OAD.out⟩
  case rest =>
    obtain ⟨rfl, hof⟩ := hcut
    have e0c := (hof.cell (a := ⟨w.heap.size, 0, none⟩) hbq (fun h => h)).trans e0
    have e2c := (hof.cell (a := ⟨w.heap.size, 2, none⟩) hbq (fun h => h)).trans e2
    have hbc := Nat.lt_of_lt_of_le hbq hof.size
    have OC := Lib.hid hof
    clear hof e0 e1 e2 f0 f1 f2 cv cv2 ad1 ad2 ad3 HWB OB
    obtain ⟨wF, hwF⟩ : ∃ wF, wF = wc.alloc (.cells #[.string X0, .string SB, .string QB2] 50) := ⟨_, rfl⟩
    have R3 : Hid (wF.heap[wc.heap.size]? = some (.cells #[.string X0, .string SB, .string QB2] 50 (0, 0))) := by rw [hwF]; exact heap_alloc_new _ _
    have OF : Hid (Only Nob wc wF) := by rw [hwF]; exact Only.alloc _ _ _
    have e0F := (OF.out.cell (a := ⟨w.heap.size, 0, none⟩) hbc (fun h => h)).trans e0c
    rw [hwF] at e0F
    have HWF := Lib.hid hwF
    clear hwF
    have hr8 := Int.emod_nonneg qa (show (8 : Int) ≠ 0 by omega)
    have hr9 := Int.emod_lt_of_pos qa (show (0 : Int) < 8 by omega)
    have M8 := Lib.hid (fun w => rmod_any qa 8 w HQR.out (by decide) (by decide))
    obtain ⟨r8, hr⟩ : ∃ r8, r8 = qa % 8 := ⟨_, rfl⟩
    rw [← hr] at M8 hr8 hr9
    have hwr : IntKind.i64.wrap (r8 - 1) = r8 - 1 := IntWalk.i64_in _ (by omega)
    have HNR : Hid (Rng (r8 - 1)) := ⟨by omega, by omega⟩
    clear hr
    go_upto_region 7 with (first | (go_at_call 20; refine (K3.out _).mono ?_; rintro e w' ⟨rfl, rfl⟩) | (go_at_call 25; (with_reducible refine (M8.out _).mono ?_); rintro e w' ⟨rfl, rfl⟩) | fail)
    rw [← HWF.out]
    clear e0c e2c e0F HWF M8 hwr hr8 hr9
    obtain ⟨n, hn⟩ : ∃ n, n = r8 - 1 := ⟨_, rfl⟩
    rw [← hn] at HNR ⊢
    clear hn
    obtain ⟨X1, hX1⟩ : ∃ X, X = SB := ⟨_, rfl⟩
    obtain ⟨X2, hX2⟩ : ∃ X, X = QB2 := ⟨_, rfl⟩
    rw [← hX1] at HX1 R3
    rw [← hX2] at HX2 R3
    clear hX1 hX2
    obtain ⟨g, hg⟩ : ∃ g, g = wc.heap.size := ⟨_, rfl⟩
    rw [← hg] at R3 ⊢
    clear hg
    have OO := Lib.hid (O4.out.nob (OC.out.nob OF.out))
    have HPF := Lib.hid (HP4.out.nob (OC.out.nob OF.out))
    have HTF := Lib.hid (HT.out.other OO.out)
    go_wp2_with fail
    go_loopw [13] (fun iv wr => ∃ i : Nat, iv = .int .i64 (i : Int) ∧ i ≤ 3 ∧ Only Nob wF wr) (fun iv _ => 3 - (intOf iv).toNat)
    case atStart => exact ⟨0, rfl, by omega, Only.refl _ _⟩
    case round =>
      obtain ⟨i, rfl, hi3, hon⟩ := hrel
      have HO := Lib.hid hon
      have R3r := (hon.block _ (lt_of_heap R3.out) (fun h => h)).trans R3.out
      clear hon
      have hcs : i = 0 ∨ i = 1 ∨ i = 2 ∨ i = 3 := by omega
      rcases hcs with rfl | rfl | rfl | rfl
      · have hci : wr.cell? ⟨g, 0, none⟩ = some (.string X0) := by simp [World.cell?, R3r]
        clear R3r
        have F1 := Lib.hid (find_b _ P X0 n wr (HPF.out.nob HO.out) HFP.out (HTF.out.other HO.out) HX0.out)
        have F2 := Lib.hid (fun w' (o : Only Nob wr w') => rfind_b _ P X0 n w' (HPF.out.nob (HO.out.nob o)) HFP.out HX0.out HNR.out)
        have C1 := Lib.hid (fun w' (o : Only Nob wr w') => count_b _ P X0 w' (HPF.out.nob (HO.out.nob o)) HFP.out (HTF.out.other (HO.out.nob o)) HX0.out)
        have C2 := Lib.hid (fun w' (o : Only Nob wr w') => rcount_b _ P X0 w' (HPF.out.nob (HO.out.nob o)) HFP.out HX0.out)
        unfold findV at F1 F2
        generalize findR (findsL P X0.data.toList) n = fr at *
        obtain ⟨fa, fb, fo⟩ := fr
        simp only at F1 F2
        generalize (findsL P X0.data.toList).length = cn at *
        go_wp2_with fail
        refine F1.out.mono ?_
        rintro e wa ⟨rfl, oa⟩
        have hca := (oa.cell (a := ⟨g, 0, none⟩) (World.block_lt_of_cell? wr _ hci) (fun h => h)).trans hci
        have QA := Lib.hid oa
        clear oa F1 hci
        go_wp2_with fail
        refine (F2.out wa QA.out).mono ?_
        rintro e wb ⟨rfl, ob⟩
        have hcb := (ob.cell (a := ⟨g, 0, none⟩) (World.block_lt_of_cell? wa _ hca) (fun h => h)).trans hca
        have QB := Lib.hid (QA.out.nob ob)
        have hlb := World.block_lt_of_cell? wb _ hcb
        clear ob F2 hca
        go_wp2_with fail
        go_region_held3 (fun w' => w'.cell? ⟨g, 0, none⟩ = some (.string X0))
          (first | exact u2 | exact u1 | exact hcb | fail)
          (first
            | (have mk := mark1; go_at_call 35; (with_reducible refine (C2.out _ q1).mono ?_); rintro e wd ⟨rfl, o2⟩; have u2 := (o2.cell (a := ⟨g, 0, none⟩) (Nat.lt_of_lt_of_le hlb oo1.size) (fun h => h)).trans u1; have q2 := q1.nob o2)
            | (go_at_call 34; (with_reducible refine (C1.out _ (QB.out.nob (Only.drew _ _))).mono ?_); rintro e wc ⟨rfl, o1⟩; have oo1 : Only Nob wb wc := (Only.drew Nob wb).nob o1; have u1 := (oo1.cell (a := ⟨g, 0, none⟩) hlb (fun h => h)).trans hcb; have q1 := QB.out.nob oo1; have mark1 := trivial)
            | fail)
        go_wp2_with fail
        go_roundw
        case rel => exact ⟨0 + 1, rfl, by omega, HO.out.nob q2⟩
        case measure => simp [intOf]
      · have hci : wr.cell? ⟨g, 1, none⟩ = some (.string X1) := by simp [World.cell?, R3r]
        clear R3r
        have F1 := Lib.hid (find_b _ P X1 n wr (HPF.out.nob HO.out) HFP.out (HTF.out.other HO.out) HX1.out)
        have F2 := Lib.hid (fun w' (o : Only Nob wr w') => rfind_b _ P X1 n w' (HPF.out.nob (HO.out.nob o)) HFP.out HX1.out HNR.out)
        have C1 := Lib.hid (fun w' (o : Only Nob wr w') => count_b _ P X1 w' (HPF.out.nob (HO.out.nob o)) HFP.out (HTF.out.other (HO.out.nob o)) HX1.out)
        have C2 := Lib.hid (fun w' (o : Only Nob wr w') => rcount_b _ P X1 w' (HPF.out.nob (HO.out.nob o)) HFP.out HX1.out)
        unfold findV at F1 F2
        generalize findR (findsL P X1.data.toList) n = fr at *
        obtain ⟨fa, fb, fo⟩ := fr
        simp only at F1 F2
        generalize (findsL P X1.data.toList).length = cn at *
        go_wp2_with fail
        refine F1.out.mono ?_
        rintro e wa ⟨rfl, oa⟩
        have hca := (oa.cell (a := ⟨g, 1, none⟩) (World.block_lt_of_cell? wr _ hci) (fun h => h)).trans hci
        have QA := Lib.hid oa
        clear oa F1 hci
        go_wp2_with fail
        refine (F2.out wa QA.out).mono ?_
        rintro e wb ⟨rfl, ob⟩
        have hcb := (ob.cell (a := ⟨g, 1, none⟩) (World.block_lt_of_cell? wa _ hca) (fun h => h)).trans hca
        have QB := Lib.hid (QA.out.nob ob)
        have hlb := World.block_lt_of_cell? wb _ hcb
        clear ob F2 hca
        go_wp2_with fail
        go_region_held3 (fun w' => w'.cell? ⟨g, 1, none⟩ = some (.string X1))
          (first | exact u2 | exact u1 | exact hcb | fail)
          (first
            | (have mk := mark1; go_at_call 35; (with_reducible refine (C2.out _ q1).mono ?_); rintro e wd ⟨rfl, o2⟩; have u2 := (o2.cell (a := ⟨g, 1, none⟩) (Nat.lt_of_lt_of_le hlb oo1.size) (fun h => h)).trans u1; have q2 := q1.nob o2)
            | (go_at_call 34; (with_reducible refine (C1.out _ (QB.out.nob (Only.drew _ _))).mono ?_); rintro e wc ⟨rfl, o1⟩; have oo1 : Only Nob wb wc := (Only.drew Nob wb).nob o1; have u1 := (oo1.cell (a := ⟨g, 1, none⟩) hlb (fun h => h)).trans hcb; have q1 := QB.out.nob oo1; have mark1 := trivial)
            | fail)
        go_wp2_with fail
        go_roundw
        case rel => exact ⟨1 + 1, rfl, by omega, HO.out.nob q2⟩
        case measure => simp [intOf]
      · have hci : wr.cell? ⟨g, 2, none⟩ = some (.string X2) := by simp [World.cell?, R3r]
        clear R3r
        have F1 := Lib.hid (find_b _ P X2 n wr (HPF.out.nob HO.out) HFP.out (HTF.out.other HO.out) HX2.out)
        have F2 := Lib.hid (fun w' (o : Only Nob wr w') => rfind_b _ P X2 n w' (HPF.out.nob (HO.out.nob o)) HFP.out HX2.out HNR.out)
        have C1 := Lib.hid (fun w' (o : Only Nob wr w') => count_b _ P X2 w' (HPF.out.nob (HO.out.nob o)) HFP.out (HTF.out.other (HO.out.nob o)) HX2.out)
        have C2 := Lib.hid (fun w' (o : Only Nob wr w') => rcount_b _ P X2 w' (HPF.out.nob (HO.out.nob o)) HFP.out HX2.out)
        unfold findV at F1 F2
        generalize findR (findsL P X2.data.toList) n = fr at *
        obtain ⟨fa, fb, fo⟩ := fr
        simp only at F1 F2
        generalize (findsL P X2.data.toList).length = cn at *
        go_wp2_with fail
        refine F1.out.mono ?_
        rintro e wa ⟨rfl, oa⟩
        have hca := (oa.cell (a := ⟨g, 2, none⟩) (World.block_lt_of_cell? wr _ hci) (fun h => h)).trans hci
        have QA := Lib.hid oa
        clear oa F1 hci
        go_wp2_with fail
        refine (F2.out wa QA.out).mono ?_
        rintro e wb ⟨rfl, ob⟩
        have hcb := (ob.cell (a := ⟨g, 2, none⟩) (World.block_lt_of_cell? wa _ hca) (fun h => h)).trans hca
        have QB := Lib.hid (QA.out.nob ob)
        have hlb := World.block_lt_of_cell? wb _ hcb
        clear ob F2 hca
        go_wp2_with fail
        go_region_held3 (fun w' => w'.cell? ⟨g, 2, none⟩ = some (.string X2))
          (first | exact u2 | exact u1 | exact hcb | fail)
          (first
            | (have mk := mark1; go_at_call 35; (with_reducible refine (C2.out _ q1).mono ?_); rintro e wd ⟨rfl, o2⟩; have u2 := (o2.cell (a := ⟨g, 2, none⟩) (Nat.lt_of_lt_of_le hlb oo1.size) (fun h => h)).trans u1; have q2 := q1.nob o2)
            | (go_at_call 34; (with_reducible refine (C1.out _ (QB.out.nob (Only.drew _ _))).mono ?_); rintro e wc ⟨rfl, o1⟩; have oo1 : Only Nob wb wc := (Only.drew Nob wb).nob o1; have u1 := (oo1.cell (a := ⟨g, 2, none⟩) hlb (fun h => h)).trans hcb; have q1 := QB.out.nob oo1; have mark1 := trivial)
            | fail)
        go_wp2_with fail
        go_roundw
        case rel => exact ⟨2 + 1, rfl, by omega, HO.out.nob q2⟩
        case measure => simp [intOf]
      · go_wp2_with fail
        go_ret
        exact ⟨rfl, OO.out.nob HO.out⟩

end Go.Proofs.YtddjbfmohibgbaaDoor
