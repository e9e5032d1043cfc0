/- The walk of PatternMatches. -/
import Derived.Test.YtddjbfmohibgbaaDoorSamplesW
import Derived.Test.YtddjbfmohibgbaaDoorPiecA
import Derived.Test.YtddjbfmohibgbaaDoorREndA
import Derived.Deep.DeepCutAuto
namespace Go.Proofs.YtddjbfmohibgbaaDoor
open Go.RowKit

theorem slice_to (s : List UInt8) (k : Nat) (h : k ≤ s.length) (w : World) : (Instr.slice 9 (.string ⟨s.toArray⟩) none (some (.int .i64 (k : Int))) none).run Tryd.prog w = .ok (.string ⟨(s.take k).toArray⟩) w := by
  have hs : (⟨s.toArray⟩ : ByteArray).size = s.length := rfl
  have h1 := run_slice_string_to_if (P := Tryd.prog) (w := w) 9 ⟨s.toArray⟩ .i64 (k : Int) Tryd.underlying9
  rw [h1, if_pos ⟨by omega, by rw [hs]; omega⟩]
  have e : (⟨s.toArray⟩ : ByteArray).extract 0 ((k : Int)).toNat = ⟨(s.take k).toArray⟩ := by
    apply str_eq
    rw [Int.toNat_natCast, Lib.extract_data]
    simp
  rw [e]
/-- Matches, of a string as it lies. -/
theorem match_b (v : Value) (p : List Pc) (X : ByteArray) (w : World) (hp : Pcs w v p) (hg : Fair p) (ht : Tab w) (hs : X.size ≤ 1000) : Calls Tryd.prog 26 #[v, .string X] w (BoolPost (matchB p X.data.toList) w) :=
  matches_any v p X.data.toList w hp hg ht (by have : X.data.toList.length = X.size := rfl; omega)
theorem rmatch_b (v : Value) (p : List Pc) (X : ByteArray) (w : World) (hp : Pcs w v p) (hg : Fair p) (hs : X.size ≤ 1000) : Calls Tryd.prog 27 #[v, .string X] w (BoolPost (matchB p X.data.toList) w) :=
  rmatches_any v p X.data.toList w hp hg (by have : X.data.toList.length = X.size := rfl; omega)

theorem set5_far (W : World) (g : Nat) (v0 v1 v2 v3 v4 : Value) {a : Addr} {u : Value} (h : W.cell? a = some u) (hn : g ≠ a.block) :
    (((((W.setCell ⟨g, 0, none⟩ v0).setCell ⟨g, 1, none⟩ v1).setCell ⟨g, 2, none⟩ v2).setCell ⟨g, 3, none⟩ v3).setCell ⟨g, 4, none⟩ v4).cell? a = some u := by
  have f : ∀ (w : World) (m : Nat) (x : Value), (w.setCell ⟨g, m, none⟩ x).cell? a = w.cell? a := fun w m x => World.cell?_setCell_far w ⟨g, m, none⟩ a x hn
  rw [f, f, f, f, f, h]
theorem set5_row {W : World} {g : Nat} (h : W.heap[g]? = some (.cells #[.string ⟨#[]⟩, .string ⟨#[]⟩, .string ⟨#[]⟩, .string ⟨#[]⟩, .string ⟨#[]⟩] 42 (0, 0))) (v0 v1 v2 v3 v4 : Value) :
    (((((W.setCell ⟨g, 0, none⟩ v0).setCell ⟨g, 1, none⟩ v1).setCell ⟨g, 2, none⟩ v2).setCell ⟨g, 3, none⟩ v3).setCell ⟨g, 4, none⟩ v4).heap[g]? = some (.cells #[v0, v1, v2, v3, v4] 42 (0, 0)) :=
  heap_setCell_same _ g 4 _ 42 v4 (heap_setCell_same _ g 3 _ 42 v3 (heap_setCell_same _ g 2 _ 42 v2 (heap_setCell_same _ g 1 _ 42 v1 (heap_setCell_same _ g 0 _ 42 v0 h))))
theorem set5_only (W : World) (g : Nat) (v0 v1 v2 v3 v4 : Value) : Only (Is g) W (((((W.setCell ⟨g, 0, none⟩ v0).setCell ⟨g, 1, none⟩ v1).setCell ⟨g, 2, none⟩ v2).setCell ⟨g, 3, none⟩ v3).setCell ⟨g, 4, none⟩ v4) := by
  have f : ∀ (w : World) (m : Nat) (x : Value), Only (Is g) w (w.setCell ⟨g, m, none⟩ x) := fun w m x => Only.setCell _ _ _ rfl
  exact ((((f W 0 v0).trans (f _ 1 v1) (fun _ _ h => h)).trans (f _ 2 v2) (fun _ _ h => h)).trans (f _ 3 v3) (fun _ _ h => h)).trans (f _ 4 v4) (fun _ _ h => h)

/-- The five strings, in a row. -/
def Row5 (w : World) (g : Nat) (X0 X1 X2 X3 X4 : ByteArray) : Prop := w.heap[g]? = some (.cells #[.string X0, .string X1, .string X2, .string X3, .string X4] 42 (0, 0))
theorem Row5.cells {w : World} {g : Nat} {X0 X1 X2 X3 X4 : ByteArray} (h : Row5 w g X0 X1 X2 X3 X4) : w.cell? ⟨g, 0, none⟩ = some (.string X0) ∧ w.cell? ⟨g, 1, none⟩ = some (.string X1) ∧ w.cell? ⟨g, 2, none⟩ = some (.string X2) ∧ w.cell? ⟨g, 3, none⟩ = some (.string X3) ∧ w.cell? ⟨g, 4, none⟩ = some (.string X4) := by
  unfold Row5 at h
  simp [World.cell?, h]

set_option maxRecDepth 100000 in
set_option maxHeartbeats 8000000 in
theorem matches_law (v : Value) (l : List Int × List Int) (tv : Value) (t : List Int) (qv : Value) (q : Int × UInt8 × List UInt8) (w : World) (hl : TwoInts w v l) (ht : IntsA w tv t) (hq : EditA qv q) (tab : Tab w) : Calls Tryd.prog 4 #[v, tv, qv] w (BoolPost true w) := by
  obtain ⟨v1, v2, rfl, hl1, hl2⟩ := hl
  obtain ⟨qa, qb, qt⟩ := q
  obtain ⟨rfl, hqr, hql⟩ := hq
  simp only at hqr hql
  obtain ⟨ao, cap, rfl⟩ := hl1.form
  obtain ⟨bo, bcap, rfl⟩ := hl2.form
  obtain ⟨tao, tcap, rfl⟩ := ht.form
  have oB : Only Nob w ((w.alloc (.cells #[.slice ao l.1.length cap, .slice bo l.2.length bcap] 36)).alloc (.cells #[.int .i64 qa, .int .u8 qb.toNat, .string ⟨qt.toArray⟩] 38)) := (Only.alloc _ _ _).nob (Only.alloc _ _ _)
  have h36 : ((w.alloc (.cells #[.slice ao l.1.length cap, .slice bo l.2.length bcap] 36)).alloc (.cells #[.int .i64 qa, .int .u8 qb.toNat, .string ⟨qt.toArray⟩] 38)).heap[w.heap.size]? = some (.cells #[.slice ao l.1.length cap, .slice bo l.2.length bcap] 36 (0, 0)) := (Below.heap_alloc _ _ _ (by simp)).trans (heap_alloc_new w _)
  have h38 : ((w.alloc (.cells #[.slice ao l.1.length cap, .slice bo l.2.length bcap] 36)).alloc (.cells #[.int .i64 qa, .int .u8 qb.toNat, .string ⟨qt.toArray⟩] 38)).heap[w.heap.size + 1]? = some (.cells #[.int .i64 qa, .int .u8 qb.toNat, .string ⟨qt.toArray⟩] 38 (0, 0)) := by
    have h := heap_alloc_new (w.alloc (.cells #[.slice ao l.1.length cap, .slice bo l.2.length bcap] 36)) (.cells #[.int .i64 qa, .int .u8 qb.toNat, .string ⟨qt.toArray⟩] 38)
    simpa using h
  have HT := Lib.hid tab
  have HL1 := Lib.hid hl1
  have HL2 := Lib.hid hl2
  have HI := Lib.hid ht
  have HB := Lib.hid (And.intro h36 (And.intro h38 oB))
  have HQR := Lib.hid hqr
  clear tab hl1 hl2 ht oB h36 h38 hqr
  go_enter Tryd.func4, Tryd.ntmps4
  go_wp2_with fail
  obtain ⟨w0, hw0⟩ : ∃ w0, w0 = (w.alloc (.cells #[.slice ao l.1.length cap, .slice bo l.2.length bcap] 36)).alloc (.cells #[.int .i64 qa, .int .u8 qb.toNat, .string ⟨qt.toArray⟩] 38) := ⟨_, rfl⟩
  rw [← hw0] at HB ⊢
  clear hw0
  refine (sanity_any w0 (HT.out.other HB.out.2.2)).mono ?_
  rintro e w1 ⟨rfl, o1⟩
  have bx := (o1.block _ (lt_of_heap HB.out.1) (fun h => h)).trans HB.out.1
  have b0 : w1.cell? ⟨w.heap.size, 0, none⟩ = some (.slice ao l.1.length cap) := by simp [World.cell?, bx]
  have O1 := Lib.hid (HB.out.2.2.nob o1)
  have BX := Lib.hid bx
  have BQ := Lib.hid ((o1.block _ (lt_of_heap HB.out.2.1) (fun h => h)).trans HB.out.2.1)
  clear o1 bx HB
  go_wp2_with fail
  refine (made_law _ l.1 w1 (HL1.out.nob O1.out)).mono ?_
  rintro e w2 ⟨pa, pc, rfl, hp, o2⟩
  have bx2 := (o2.block _ (lt_of_heap BX.out) (fun h => h)).trans BX.out
  have b1 : w2.cell? ⟨w.heap.size, 1, none⟩ = some (.slice bo l.2.length bcap) := by simp [World.cell?, bx2]
  have BQ2 := Lib.hid ((o2.block _ (lt_of_heap BQ.out) (fun h => h)).trans BQ.out)
  have HP := Lib.hid hp
  have O2 := Lib.hid (O1.out.nob o2)
  clear o2 hp b0 bx2 BX O1 BQ
  go_wp2_with fail
  refine (made_law _ l.2 w2 (HL2.out.nob O2.out)).mono ?_
  rintro e w3 ⟨qa2, qc, rfl, hq, o3⟩
  have BQ3 := Lib.hid ((o3.block _ (lt_of_heap BQ2.out) (fun h => h)).trans BQ2.out)
  have HQ := Lib.hid hq
  have HP3 := Lib.hid (HP.out.nob o3)
  have O3 := Lib.hid (O2.out.nob o3)
  clear o3 hq HP O2 b1 BQ2
  go_wp2_with fail
  refine (sample_law _ _ l.1 t w3 HP3.out (HI.out.nob O3.out)).mono ?_
  rintro e w4 ⟨rfl, o4⟩
  have q4 := (o4.block _ (lt_of_heap BQ3.out) (fun h => h)).trans BQ3.out
  have HP4 := Lib.hid (HP3.out.nob o4)
  have HQ4 := Lib.hid (HQ.out.nob o4)
  have O4 := Lib.hid (O3.out.nob o4)
  have HFP := Lib.hid (made_facts l.1).2.2
  have HFQ := Lib.hid (made_facts l.2).2.2
  have SQ := Lib.hid (fun w' (o : Only Nob w4 w') => sample_law _ _ l.2 t w' (HQ4.out.nob o) (HI.out.nob (O4.out.nob o)))
  have hs1 := (sample_facts l.1 t).1
  have hs2 := (sample_facts l.2 t).1
  have CUT := Lib.hid (fun w => cut_any qt 203 w (by decide) hql)
  clear o4 HP3 HQ O3 BQ3
  generalize sampleL (madeL l.1) t = S at *
  generalize sampleL (madeL l.2) t = S2 at *
  generalize madeL l.1 = P at *
  generalize madeL l.2 = Q at *
  have e0 : w4.cell? ⟨w.heap.size + 1, 0, none⟩ = some (.int .i64 qa) := by simp [World.cell?, q4]
  have e1 : w4.cell? ⟨w.heap.size + 1, 1, none⟩ = some (.int .u8 qb.toNat) := by simp [World.cell?, q4]
  have e2 : w4.cell? ⟨w.heap.size + 1, 2, none⟩ = some (.string ⟨qt.toArray⟩) := by simp [World.cell?, q4]
  have hbq := lt_of_heap q4
  have hw1 : IntKind.i64.wrap ((S.length : Int) + 1) = (S.length : Int) + 1 := IntWalk.i64_in _ (by omega)
  obtain ⟨k, hk⟩ : ∃ k : Nat, qa % ((S.length : Int) + 1) = (k : Int) := ⟨(qa % ((S.length : Int) + 1)).toNat, by have := Int.emod_nonneg qa (show ((S.length : Int) + 1) ≠ 0 by omega); omega⟩
  have hkn : k ≤ S.length := by have := Int.emod_lt_of_pos qa (show 0 < ((S.length : Int) + 1) by omega); omega
  have MD := Lib.hid (fun w => rmod_any qa ((S.length : Int) + 1) w HQR.out (by omega) (by omega))
  rw [hk] at MD
  clear hk q4
  obtain ⟨wB, hwB⟩ : ∃ wB, wB = w4.alloc (.cells #[.int .u8 qb.toNat] 5) := ⟨_, rfl⟩
  have b0 : wB.cell? ⟨w4.heap.size, 0, none⟩ = some (.int .u8 qb.toNat) := by rw [hwB]; exact (Boxed.new w4 5 (.int .u8 qb.toNat)).cell
  have oB : Only Nob w4 wB := by rw [hwB]; exact Only.alloc _ _ _
  have cv := conv_one qb wB w4.heap.size b0
  have e2B := (oB.cell (a := ⟨w.heap.size + 1, 2, none⟩) hbq (fun h => h)).trans e2
  rw [hwB] at cv
  have OB := Lib.hid oB
  have HWB := Lib.hid hwB
  clear b0 oB hwB
  go_upto_region 7 with (first | (go_at_call 25; refine (MD.out _).mono ?_; rintro e w' ⟨rfl, rfl⟩) | fail)
  rw [← HWB.out]
  clear cv e0 e1 e2 HWB MD
  obtain ⟨m, hm⟩ : ∃ m, m = min (k + 1) S.length := ⟨_, rfl⟩
  have hw2 : IntKind.i64.wrap ((k : Int) + 1) = (k : Int) + 1 := IntWalk.i64_in _ (by omega)
  have hmin : min ((k : Int) + 1) (S.length : Int) = (m : Int) := by omega
  obtain ⟨SB, hSB⟩ : ∃ SB : ByteArray, SB = ⟨S.toArray⟩ := ⟨_, rfl⟩
  obtain ⟨AB, hAB⟩ : ∃ AB : ByteArray, AB = ⟨(S.take k).toArray⟩ := ⟨_, rfl⟩
  obtain ⟨DB, hDB⟩ : ∃ DB : ByteArray, DB = ⟨(S.drop m).toArray⟩ := ⟨_, rfl⟩
  obtain ⟨CB, hCB⟩ : ∃ CB : ByteArray, CB = ⟨#[qb]⟩ := ⟨_, rfl⟩
  have z1 : SB.size = S.length := by rw [hSB]; rfl
  have z2 : AB.size ≤ 95 := by rw [hAB]; show (S.take k).length ≤ 95; simp; omega
  have z3 : DB.size ≤ 95 := by rw [hDB]; show (S.drop m).length ≤ 95; simp; omega
  have z4 : CB.size = 1 := by rw [hCB]; rfl
  have sl1 : ∀ w, (Instr.slice 9 (.string SB) none (some (.int .i64 (k : Int))) none).run Tryd.prog w = .ok (.string AB) w := fun w => by rw [hSB, hAB]; exact slice_to S k hkn w
  have sl2 : ∀ w, (Instr.slice 9 (.string SB) (some (.int .i64 (m : Int))) none none).run Tryd.prog w = .ok (.string DB) w := fun w => by rw [hSB, hDB]; exact slice_from S m (by omega) w
  have ad1 : ∀ w, (Op.stringOp .add AB CB).run Tryd.prog w = .ok (.string (AB ++ CB)) w := fun w => run_string_add_sum w _ _ (by omega)
  have z5 : (AB ++ CB).size ≤ 96 := by rw [ByteArray.size_append]; omega
  have ad2 : ∀ w, (Op.stringOp .add (AB ++ CB) DB).run Tryd.prog w = .ok (.string (AB ++ CB ++ DB)) w := fun w => run_string_add_sum w _ _ (by omega)
  have ad3 : ∀ w, (Op.stringOp .add SB CB).run Tryd.prog w = .ok (.string (SB ++ CB)) w := fun w => run_string_add_sum w _ _ (by omega)
  obtain ⟨S2B, hS2⟩ : ∃ X : ByteArray, X = ⟨S2.toArray⟩ := ⟨_, rfl⟩
  obtain ⟨Q2B, hQ2⟩ : ∃ X : ByteArray, X = ⟨(qt.take 203).toArray⟩ := ⟨_, rfl⟩
  have z6 : S2B.size ≤ 1000 := by rw [hS2]; show S2.length ≤ 1000; omega
  have z7 : Q2B.size ≤ 1000 := by rw [hQ2]; show (qt.take 203).length ≤ 1000; simp; omega
  unfold StrPost at SQ
  rw [← hS2] at SQ
  rw [← hQ2] at CUT
  clear hS2 hQ2
  rw [← hSB, ← hCB]
  have Z := Lib.hid (show SB.size ≤ 1000 ∧ (AB ++ CB ++ DB).size ≤ 1000 ∧ (SB ++ CB).size ≤ 1000 ∧ S2B.size ≤ 1000 ∧ Q2B.size ≤ 1000 by rw [ByteArray.size_append, ByteArray.size_append, ByteArray.size_append]; omega)
  clear hSB hAB hDB hCB hm z2 z3 z4 z5 z6 z7
  obtain ⟨X0, hX0⟩ : ∃ X, X = SB := ⟨_, rfl⟩
  obtain ⟨X1, hX1⟩ : ∃ X, X = AB ++ CB ++ DB := ⟨_, rfl⟩
  obtain ⟨X2, hX2⟩ : ∃ X, X = SB ++ CB := ⟨_, rfl⟩
  obtain ⟨X3, hX3⟩ : ∃ X, X = S2B := ⟨_, rfl⟩
  obtain ⟨X4, hX4⟩ : ∃ X, X = Q2B := ⟨_, rfl⟩
  have ZX0 : Hid (X0.size ≤ 1000) := by rw [hX0]; exact Z.out.1
  have ZX1 : Hid (X1.size ≤ 1000) := by rw [hX1]; exact Z.out.2.1
  have ZX2 : Hid (X2.size ≤ 1000) := by rw [hX2]; exact Z.out.2.2.1
  have ZX3 : Hid (X3.size ≤ 1000) := by rw [hX3]; exact Z.out.2.2.2.1
  have ZX4 : Hid (X4.size ≤ 1000) := by rw [hX4]; exact Z.out.2.2.2.2
  have HXS := Lib.hid (And.intro hX0 (And.intro hX1 (And.intro hX2 (And.intro hX3 hX4))))
  clear hX0 hX1 hX2 hX3 hX4
  go_cut [13] (fun s13 wx => ∃ g : Nat, s13 = .pointer (some ⟨g, 0, none⟩) ∧ Row5 wx g X0 X1 X2 X3 X4 ∧ Only Nob w4 wx)
  case first =>
    have hbB : w.heap.size + 1 < wB.heap.size := Nat.lt_of_lt_of_le hbq OB.out.size
    have e2D : ∀ o : Obj, (wB.alloc o).cell? ⟨w.heap.size + 1, 2, none⟩ = some (.string ⟨qt.toArray⟩) := fun o => ((Only.alloc Nob wB o).cell (a := ⟨w.heap.size + 1, 2, none⟩) hbB (fun h => h)).trans e2B
    have e2Dr : wB.drew.cell? ⟨w.heap.size + 1, 2, none⟩ = some (.string ⟨qt.toArray⟩) := e2B
    have e2A : ∀ o : Obj, (wB.drew.alloc o).cell? ⟨w.heap.size + 1, 2, none⟩ = some (.string ⟨qt.toArray⟩) := e2D
    have e2A2 : ∀ o : Obj, (wB.alloc o).drew.cell? ⟨w.heap.size + 1, 2, none⟩ = some (.string ⟨qt.toArray⟩) := e2D
    go_region_held3 (fun w' => w'.cell? ⟨w.heap.size + 1, 2, none⟩ = some (.string ⟨qt.toArray⟩))
      (first | with_reducible exact u1 | with_reducible exact u5 _ _ _ _ _ | with_reducible exact e2B | with_reducible exact e2Dr | with_reducible exact e2D _ | with_reducible exact e2A _ | with_reducible exact e2A2 _ | exact ((Only.alloc Nob _ _).cell (a := ⟨w.heap.size + 1, 2, none⟩) hb6 (fun h => h)).trans u1 | fail)
      (first
        | (go_at_call 20; refine (CUT.out _).mono ?_; rintro e w' ⟨rfl, rfl⟩)
        | (go_at_call 24; refine (SQ.out _ (OB.out.nob (Only.drew _ _))).mono ?_; rintro e w6 ⟨rfl, o6⟩; have on6 : Only Nob wB w6 := (Only.drew Nob wB).nob o6; have u1 := (on6.cell (a := ⟨w.heap.size + 1, 2, none⟩) hbB (fun h => h)).trans e2B; have hb6 := Nat.lt_of_lt_of_le hbB on6.size)
        | (go_at_call 24; refine (SQ.out _ (OB.out.nob ((Only.alloc Nob wB (.cells #[.string ⟨#[]⟩, .string ⟨#[]⟩, .string ⟨#[]⟩, .string ⟨#[]⟩, .string ⟨#[]⟩] 42)).nob (Only.drew _ _)))).mono ?_; rintro e w6 ⟨rfl, o6⟩; have on6 : Only Nob wB w6 := ((Only.alloc Nob wB _).nob (Only.drew Nob _)).nob o6; have u1 := (on6.cell (a := ⟨w.heap.size + 1, 2, none⟩) hbB (fun h => h)).trans e2B; have hb6 := Nat.lt_of_lt_of_le hbB on6.size; have hne : wB.heap.size ≠ w.heap.size + 1 := (Nat.ne_of_lt hbB).symm; have u5 := (fun v0 v1 v2 v3 v4 => set5_far w6 wB.heap.size v0 v1 v2 v3 v4 u1 hne); have bz := (o6.block wB.heap.size (by simp) (fun h => h)).trans (heap_alloc_new wB (.cells #[.string ⟨#[]⟩, .string ⟨#[]⟩, .string ⟨#[]⟩, .string ⟨#[]⟩, .string ⟨#[]⟩] 42)); have y0 : w6.cell? ⟨wB.heap.size, 0, none⟩ = some (.string ⟨#[]⟩) := (by simp [World.cell?, bz]); have yf0 : w6.frozen? ⟨wB.heap.size, 0, none⟩ = false := (by simp [World.frozen?, bz]); have y1 : w6.cell? ⟨wB.heap.size, 1, none⟩ = some (.string ⟨#[]⟩) := (by simp [World.cell?, bz]); have yf1 : w6.frozen? ⟨wB.heap.size, 1, none⟩ = false := (by simp [World.frozen?, bz]); have y2 : w6.cell? ⟨wB.heap.size, 2, none⟩ = some (.string ⟨#[]⟩) := (by simp [World.cell?, bz]); have yf2 : w6.frozen? ⟨wB.heap.size, 2, none⟩ = false := (by simp [World.frozen?, bz]); have y3 : w6.cell? ⟨wB.heap.size, 3, none⟩ = some (.string ⟨#[]⟩) := (by simp [World.cell?, bz]); have yf3 : w6.frozen? ⟨wB.heap.size, 3, none⟩ = false := (by simp [World.frozen?, bz]); have y4 : w6.cell? ⟨wB.heap.size, 4, none⟩ = some (.string ⟨#[]⟩) := (by simp [World.cell?, bz]); have yf4 : w6.frozen? ⟨wB.heap.size, 4, none⟩ = false := (by simp [World.frozen?, bz]))
        | fail)
    all_goals
      go_wp2_with fail
      go_meet
      obtain ⟨hX0, hX1, hX2, hX3, hX4⟩ := HXS.out
      first
        | have hbz := bz
          exact ⟨_, rfl, by rw [hX0, hX1, hX2, hX3, hX4]; exact set5_row hbz _ _ _ _ _, (OB.out.nob on6).trans (set5_only _ _ _ _ _ _ _) (fun k hk h => by have h : k = wB.heap.size := h; have := OB.out.size; omega)⟩
        | exact ⟨_, rfl, by rw [hX0, hX1, hX2, hX3, hX4]; exact heap_alloc_new _ _, (OB.out.nob on6).nob (Only.alloc _ _ _)⟩
  case rest =>
    obtain ⟨g, rfl, hr5, hof⟩ := hcut
    have R5 := Lib.hid hr5
    have OF := Lib.hid hof
    have OO := Lib.hid (O4.out.nob hof)
    obtain ⟨wF, hwF⟩ : ∃ wF, wF = wc := ⟨_, rfl⟩
    subst hwF
    clear hr5 hof
    have HTW := Lib.hid (show Tab wF from HT.out.other (OO.out))
    have HPF := Lib.hid (show Pcs wF (.slice pa P.length pc) P from HP4.out.nob OF.out)
    have HQF := Lib.hid (show Pcs wF (.slice qa2 Q.length qc) Q from HQ4.out.nob OF.out)
    clear HP4 HQ4 OF
    go_wp2_with fail
    go_loopw [14] (fun iv wr => ∃ i : Nat, iv = .int .i64 (i : Int) ∧ i ≤ 5 ∧ Only Nob wF wr) (fun iv _ => 5 - (intOf iv).toNat)
    case atStart => exact ⟨0, rfl, by omega, Only.refl _ _⟩
    case round =>
      obtain ⟨i, rfl, hi5, hon⟩ := hrel
      have HO := Lib.hid hon
      have HR5 := Lib.hid (show Row5 wr g X0 X1 X2 X3 X4 from (hon.block _ (lt_of_heap R5.out) (fun h => h)).trans R5.out)
      have hgl := lt_of_heap HR5.out
      clear hon
      have hcs : i = 0 ∨ i = 1 ∨ i = 2 ∨ i = 3 ∨ i = 4 ∨ i = 5 := by omega
      rcases hcs with rfl | rfl | rfl | rfl | rfl | rfl
      · have c0 : wr.cell? ⟨g, 0, none⟩ = some (.string X0) := HR5.out.cells.1
        have c0d : wr.drew.cell? ⟨g, 0, none⟩ = some (.string X0) := c0
        have A1 := Lib.hid (fun w' (o : Only Nob wr w') => match_b _ P X0 w' (HPF.out.nob (HO.out.nob o)) HFP.out (HTW.out.other (HO.out.nob o)) ZX0.out)
        have A2 := Lib.hid (fun w' (o : Only Nob wr w') => rmatch_b _ P X0 w' (HPF.out.nob (HO.out.nob o)) HFP.out ZX0.out)
        have A3 := Lib.hid (fun w' (o : Only Nob wr w') => match_b _ Q X0 w' (HQF.out.nob (HO.out.nob o)) HFQ.out (HTW.out.other (HO.out.nob o)) ZX0.out)
        have A4 := Lib.hid (fun w' (o : Only Nob wr w') => rmatch_b _ Q X0 w' (HQF.out.nob (HO.out.nob o)) HFQ.out ZX0.out)
        generalize matchB P X0.data.toList = b1 at *
        generalize matchB Q X0.data.toList = b2 at *
        go_wp2_with fail
        go_region_held3 (fun w' => w'.cell? ⟨g, 0, none⟩ = some (.string X0))
          (first | with_reducible exact s4 | with_reducible exact s3 | with_reducible exact s2 | with_reducible exact s1 | with_reducible exact c0d | with_reducible exact c0 | fail)
          (first
            | (have mk := mark3; go_at_call 27; (with_reducible refine (A4.out _ p3).mono ?_); rintro e wd ⟨rfl, o4⟩; have p4 := p3.nob o4; have s4 := (p4.cell (a := ⟨g, 0, none⟩) hgl (fun h => h)).trans c0)
            | (have mk := mark2; go_at_call 26; (with_reducible refine (A3.out _ p2).mono ?_); rintro e wc ⟨rfl, o3⟩; have p3 := p2.nob o3; have s3 := (p3.cell (a := ⟨g, 0, none⟩) hgl (fun h => h)).trans c0; have mark3 := trivial)
            | (have mk := mark1; go_at_call 27; (with_reducible refine (A2.out _ p1).mono ?_); rintro e wb ⟨rfl, o2⟩; have p2 := p1.nob o2; have s2 := (p2.cell (a := ⟨g, 0, none⟩) hgl (fun h => h)).trans c0; have mark2 := trivial)
            | (go_at_call 26; (with_reducible refine (A1.out _ (Only.drew _ _)).mono ?_); rintro e wa ⟨rfl, o1⟩; have p1 := (Only.drew Nob wr).nob o1; have s1 := (p1.cell (a := ⟨g, 0, none⟩) hgl (fun h => h)).trans c0; have mark1 := trivial)
            | fail)
        go_wp2_with fail
        go_roundw
        case rel => exact ⟨0 + 1, rfl, by omega, HO.out.nob p4⟩
        case measure => simp [intOf]
      · have c0 : wr.cell? ⟨g, 1, none⟩ = some (.string X1) := HR5.out.cells.2.1
        have c0d : wr.drew.cell? ⟨g, 1, none⟩ = some (.string X1) := c0
        have A1 := Lib.hid (fun w' (o : Only Nob wr w') => match_b _ P X1 w' (HPF.out.nob (HO.out.nob o)) HFP.out (HTW.out.other (HO.out.nob o)) ZX1.out)
        have A2 := Lib.hid (fun w' (o : Only Nob wr w') => rmatch_b _ P X1 w' (HPF.out.nob (HO.out.nob o)) HFP.out ZX1.out)
        have A3 := Lib.hid (fun w' (o : Only Nob wr w') => match_b _ Q X1 w' (HQF.out.nob (HO.out.nob o)) HFQ.out (HTW.out.other (HO.out.nob o)) ZX1.out)
        have A4 := Lib.hid (fun w' (o : Only Nob wr w') => rmatch_b _ Q X1 w' (HQF.out.nob (HO.out.nob o)) HFQ.out ZX1.out)
        generalize matchB P X1.data.toList = b1 at *
        generalize matchB Q X1.data.toList = b2 at *
        go_wp2_with fail
        go_region_held3 (fun w' => w'.cell? ⟨g, 1, none⟩ = some (.string X1))
          (first | with_reducible exact s4 | with_reducible exact s3 | with_reducible exact s2 | with_reducible exact s1 | with_reducible exact c0d | with_reducible exact c0 | fail)
          (first
            | (have mk := mark3; go_at_call 27; (with_reducible refine (A4.out _ p3).mono ?_); rintro e wd ⟨rfl, o4⟩; have p4 := p3.nob o4; have s4 := (p4.cell (a := ⟨g, 1, none⟩) hgl (fun h => h)).trans c0)
            | (have mk := mark2; go_at_call 26; (with_reducible refine (A3.out _ p2).mono ?_); rintro e wc ⟨rfl, o3⟩; have p3 := p2.nob o3; have s3 := (p3.cell (a := ⟨g, 1, none⟩) hgl (fun h => h)).trans c0; have mark3 := trivial)
            | (have mk := mark1; go_at_call 27; (with_reducible refine (A2.out _ p1).mono ?_); rintro e wb ⟨rfl, o2⟩; have p2 := p1.nob o2; have s2 := (p2.cell (a := ⟨g, 1, none⟩) hgl (fun h => h)).trans c0; have mark2 := trivial)
            | (go_at_call 26; (with_reducible refine (A1.out _ (Only.drew _ _)).mono ?_); rintro e wa ⟨rfl, o1⟩; have p1 := (Only.drew Nob wr).nob o1; have s1 := (p1.cell (a := ⟨g, 1, none⟩) hgl (fun h => h)).trans c0; have mark1 := trivial)
            | fail)
        go_wp2_with fail
        go_roundw
        case rel => exact ⟨1 + 1, rfl, by omega, HO.out.nob p4⟩
        case measure => simp [intOf]
      · have c0 : wr.cell? ⟨g, 2, none⟩ = some (.string X2) := HR5.out.cells.2.2.1
        have c0d : wr.drew.cell? ⟨g, 2, none⟩ = some (.string X2) := c0
        have A1 := Lib.hid (fun w' (o : Only Nob wr w') => match_b _ P X2 w' (HPF.out.nob (HO.out.nob o)) HFP.out (HTW.out.other (HO.out.nob o)) ZX2.out)
        have A2 := Lib.hid (fun w' (o : Only Nob wr w') => rmatch_b _ P X2 w' (HPF.out.nob (HO.out.nob o)) HFP.out ZX2.out)
        have A3 := Lib.hid (fun w' (o : Only Nob wr w') => match_b _ Q X2 w' (HQF.out.nob (HO.out.nob o)) HFQ.out (HTW.out.other (HO.out.nob o)) ZX2.out)
        have A4 := Lib.hid (fun w' (o : Only Nob wr w') => rmatch_b _ Q X2 w' (HQF.out.nob (HO.out.nob o)) HFQ.out ZX2.out)
        generalize matchB P X2.data.toList = b1 at *
        generalize matchB Q X2.data.toList = b2 at *
        go_wp2_with fail
        go_region_held3 (fun w' => w'.cell? ⟨g, 2, none⟩ = some (.string X2))
          (first | with_reducible exact s4 | with_reducible exact s3 | with_reducible exact s2 | with_reducible exact s1 | with_reducible exact c0d | with_reducible exact c0 | fail)
          (first
            | (have mk := mark3; go_at_call 27; (with_reducible refine (A4.out _ p3).mono ?_); rintro e wd ⟨rfl, o4⟩; have p4 := p3.nob o4; have s4 := (p4.cell (a := ⟨g, 2, none⟩) hgl (fun h => h)).trans c0)
            | (have mk := mark2; go_at_call 26; (with_reducible refine (A3.out _ p2).mono ?_); rintro e wc ⟨rfl, o3⟩; have p3 := p2.nob o3; have s3 := (p3.cell (a := ⟨g, 2, none⟩) hgl (fun h => h)).trans c0; have mark3 := trivial)
            | (have mk := mark1; go_at_call 27; (with_reducible refine (A2.out _ p1).mono ?_); rintro e wb ⟨rfl, o2⟩; have p2 := p1.nob o2; have s2 := (p2.cell (a := ⟨g, 2, none⟩) hgl (fun h => h)).trans c0; have mark2 := trivial)
            | (go_at_call 26; (with_reducible refine (A1.out _ (Only.drew _ _)).mono ?_); rintro e wa ⟨rfl, o1⟩; have p1 := (Only.drew Nob wr).nob o1; have s1 := (p1.cell (a := ⟨g, 2, none⟩) hgl (fun h => h)).trans c0; have mark1 := trivial)
            | fail)
        go_wp2_with fail
        go_roundw
        case rel => exact ⟨2 + 1, rfl, by omega, HO.out.nob p4⟩
        case measure => simp [intOf]
      · have c0 : wr.cell? ⟨g, 3, none⟩ = some (.string X3) := HR5.out.cells.2.2.2.1
        have c0d : wr.drew.cell? ⟨g, 3, none⟩ = some (.string X3) := c0
        have A1 := Lib.hid (fun w' (o : Only Nob wr w') => match_b _ P X3 w' (HPF.out.nob (HO.out.nob o)) HFP.out (HTW.out.other (HO.out.nob o)) ZX3.out)
        have A2 := Lib.hid (fun w' (o : Only Nob wr w') => rmatch_b _ P X3 w' (HPF.out.nob (HO.out.nob o)) HFP.out ZX3.out)
        have A3 := Lib.hid (fun w' (o : Only Nob wr w') => match_b _ Q X3 w' (HQF.out.nob (HO.out.nob o)) HFQ.out (HTW.out.other (HO.out.nob o)) ZX3.out)
        have A4 := Lib.hid (fun w' (o : Only Nob wr w') => rmatch_b _ Q X3 w' (HQF.out.nob (HO.out.nob o)) HFQ.out ZX3.out)
        generalize matchB P X3.data.toList = b1 at *
        generalize matchB Q X3.data.toList = b2 at *
        go_wp2_with fail
        go_region_held3 (fun w' => w'.cell? ⟨g, 3, none⟩ = some (.string X3))
          (first | with_reducible exact s4 | with_reducible exact s3 | with_reducible exact s2 | with_reducible exact s1 | with_reducible exact c0d | with_reducible exact c0 | fail)
          (first
            | (have mk := mark3; go_at_call 27; (with_reducible refine (A4.out _ p3).mono ?_); rintro e wd ⟨rfl, o4⟩; have p4 := p3.nob o4; have s4 := (p4.cell (a := ⟨g, 3, none⟩) hgl (fun h => h)).trans c0)
            | (have mk := mark2; go_at_call 26; (with_reducible refine (A3.out _ p2).mono ?_); rintro e wc ⟨rfl, o3⟩; have p3 := p2.nob o3; have s3 := (p3.cell (a := ⟨g, 3, none⟩) hgl (fun h => h)).trans c0; have mark3 := trivial)
            | (have mk := mark1; go_at_call 27; (with_reducible refine (A2.out _ p1).mono ?_); rintro e wb ⟨rfl, o2⟩; have p2 := p1.nob o2; have s2 := (p2.cell (a := ⟨g, 3, none⟩) hgl (fun h => h)).trans c0; have mark2 := trivial)
            | (go_at_call 26; (with_reducible refine (A1.out _ (Only.drew _ _)).mono ?_); rintro e wa ⟨rfl, o1⟩; have p1 := (Only.drew Nob wr).nob o1; have s1 := (p1.cell (a := ⟨g, 3, none⟩) hgl (fun h => h)).trans c0; have mark1 := trivial)
            | fail)
        go_wp2_with fail
        go_roundw
        case rel => exact ⟨3 + 1, rfl, by omega, HO.out.nob p4⟩
        case measure => simp [intOf]
      · have c0 : wr.cell? ⟨g, 4, none⟩ = some (.string X4) := HR5.out.cells.2.2.2.2
        have c0d : wr.drew.cell? ⟨g, 4, none⟩ = some (.string X4) := c0
        have A1 := Lib.hid (fun w' (o : Only Nob wr w') => match_b _ P X4 w' (HPF.out.nob (HO.out.nob o)) HFP.out (HTW.out.other (HO.out.nob o)) ZX4.out)
        have A2 := Lib.hid (fun w' (o : Only Nob wr w') => rmatch_b _ P X4 w' (HPF.out.nob (HO.out.nob o)) HFP.out ZX4.out)
        have A3 := Lib.hid (fun w' (o : Only Nob wr w') => match_b _ Q X4 w' (HQF.out.nob (HO.out.nob o)) HFQ.out (HTW.out.other (HO.out.nob o)) ZX4.out)
        have A4 := Lib.hid (fun w' (o : Only Nob wr w') => rmatch_b _ Q X4 w' (HQF.out.nob (HO.out.nob o)) HFQ.out ZX4.out)
        generalize matchB P X4.data.toList = b1 at *
        generalize matchB Q X4.data.toList = b2 at *
        go_wp2_with fail
        go_region_held3 (fun w' => w'.cell? ⟨g, 4, none⟩ = some (.string X4))
          (first | with_reducible exact s4 | with_reducible exact s3 | with_reducible exact s2 | with_reducible exact s1 | with_reducible exact c0d | with_reducible exact c0 | fail)
          (first
            | (have mk := mark3; go_at_call 27; (with_reducible refine (A4.out _ p3).mono ?_); rintro e wd ⟨rfl, o4⟩; have p4 := p3.nob o4; have s4 := (p4.cell (a := ⟨g, 4, none⟩) hgl (fun h => h)).trans c0)
            | (have mk := mark2; go_at_call 26; (with_reducible refine (A3.out _ p2).mono ?_); rintro e wc ⟨rfl, o3⟩; have p3 := p2.nob o3; have s3 := (p3.cell (a := ⟨g, 4, none⟩) hgl (fun h => h)).trans c0; have mark3 := trivial)
            | (have mk := mark1; go_at_call 27; (with_reducible refine (A2.out _ p1).mono ?_); rintro e wb ⟨rfl, o2⟩; have p2 := p1.nob o2; have s2 := (p2.cell (a := ⟨g, 4, none⟩) hgl (fun h => h)).trans c0; have mark2 := trivial)
            | (go_at_call 26; (with_reducible refine (A1.out _ (Only.drew _ _)).mono ?_); rintro e wa ⟨rfl, o1⟩; have p1 := (Only.drew Nob wr).nob o1; have s1 := (p1.cell (a := ⟨g, 4, none⟩) hgl (fun h => h)).trans c0; have mark1 := trivial)
            | fail)
        go_wp2_with fail
        go_roundw
        case rel => exact ⟨4 + 1, rfl, by omega, HO.out.nob p4⟩
        case measure => simp [intOf]
      · go_wp2_with fail
        go_ret
        exact ⟨rfl, OO.out.nob HO.out⟩

end Go.Proofs.YtddjbfmohibgbaaDoor
