/- The reader's run: a class with its counts. -/
import Derived.Test.YtddjbfmohibgbaaDoorBrc
import Derived.Test.YtddjbfmohibgbaaDoorPOwn
namespace Go.Proofs.YtddjbfmohibgbaaDoor
open Go.RowKit

def runV (c : Int) (p : Nat × Nat) : Ending := .returned (pcV ⟨c, p.1, p.2, []⟩)

/-- The world in which the run's two boxes lie. -/
def runW (w : World) (c : Int) : World := (w.alloc (.cells #[.int .i64 0, .int .i64 0, .int .i64 0, .string ⟨#[]⟩] 31)).alloc (.cells #[.int .i64 c, .int .i64 1, .int .i64 1, .string ⟨#[]⟩] 31)

theorem runW_at (w : World) (c : Int) : PcRow (runW w c) w.heap.size ⟨0, 0, 0, []⟩ ∧ PcRow (runW w c) (w.heap.size + 1) ⟨c, 1, 1, []⟩ ∧ Only Nob w (runW w c) := by
  unfold runW PcRow
  refine ⟨?_, ?_, (Only.alloc _ _ _).nob (Only.alloc _ _ _)⟩
  · rw [Below.heap_alloc _ _ _ (by simp), heap_alloc_new]
  · have h := heap_alloc_new (w.alloc (.cells #[.int .i64 0, .int .i64 0, .int .i64 0, .string ⟨#[]⟩] 31)) (.cells #[.int .i64 c, .int .i64 1, .int .i64 1, .string ⟨#[]⟩] 31)
    simpa using h

theorem cnt_plus {s : List UInt8} {k : Nat} (h : (peekL s k).toNat = 43) : cntL s k = .ok ((1, 200), k + 1) := by unfold cntL; rw [if_pos h]
theorem cnt_star {s : List UInt8} {k : Nat} (h : (peekL s k).toNat = 42) : cntL s k = .ok ((0, 200), k + 1) := by unfold cntL; rw [if_neg (by omega), if_pos h]
theorem cnt_brc {s : List UInt8} {k : Nat} (h : (peekL s k).toNat = 123) : cntL s k = bracesL s k := by unfold cntL; rw [if_neg (by omega), if_neg (by omega), if_pos h]
theorem cnt_one {s : List UInt8} {k : Nat} (h1 : ¬ (peekL s k).toNat = 43) (h2 : ¬ (peekL s k).toNat = 42) (h3 : ¬ (peekL s k).toNat = 123) : cntL s k = .ok ((1, 1), k) := by unfold cntL; rw [if_neg h1, if_neg h2, if_neg h3]

theorem PcRow.set4 {w : World} {b : Nat} {z : Pc} (h : PcRow w b z) (c l m : Int) (t : List UInt8) :
    PcRow ((((w.setCell ⟨b, 0, none⟩ (.int .i64 c)).setCell ⟨b, 1, none⟩ (.int .i64 l)).setCell ⟨b, 2, none⟩ (.int .i64 m)).setCell ⟨b, 3, none⟩ (.string ⟨t.toArray⟩)) b ⟨c, l, m, t⟩ :=
  heap_setCell_same _ b 3 _ 31 _ (heap_setCell_same _ b 2 _ 31 _ (heap_setCell_same _ b 1 _ 31 _ (heap_setCell_same _ b 0 _ 31 _ h)))

theorem res106 (tmps : Array Value) (w : World) (b : Nat) (x : Pc) (ht : tmps.getD 4 undef = .pointer (some ⟨b, 0, none⟩)) (h : PcRow w b x) : (results Tryd.f106 tmps).run Tryd.prog w = .ok (.agg #[.int .i64 x.c, .int .i64 x.l, .int .i64 x.m, .string ⟨x.t.toArray⟩]) w := by
  obtain ⟨⟨c0, c1, c2, c3⟩, -⟩ := h.cells
  simp only [results, show Tryd.f106.results = #[.cell 4 31] from rfl]
  simp only [Nat.zero_add] at c1 c2 c3
  have ht2 : tmps[4]?.getD undef = .pointer (some ⟨b, 0, none⟩) := by simpa using ht
  simp [go_sem, ht2, c0, c1, c2, c3]

theorem Only.put {S : Nat → Prop} {w w' : World} (h : Only S w w') (b o : Nat) (v : Value) (hb : S b) : Only S w (w'.setCell ⟨b, o, none⟩ v) := h.trans (Only.setCell (S := S) _ _ _ hb) (fun _ _ h => h)
theorem Only.also {S : Nat → Prop} {w w1 w2 : World} (h : Only S w w1) (k : Only Nob w1 w2) : Only S w w2 := h.trans k (fun _ _ h => h.elim)

/-- Two new blocks besides. -/
def Run (g n : Nat) : Nat → Prop := fun i => i = g ∨ n ≤ i
/-- All but one block. -/
def Oth (n : Nat) : Nat → Prop := fun i => i ≠ n
theorem only_run {g : Nat} {w w' : World} (h : Only (Run g w.heap.size) w w') : Only (Is g) w w' := h.mono fun i hi h => by
  rcases h with h | h
  · exact h
  · exact absurd hi (by omega)

set_option maxRecDepth 100000 in
set_option maxHeartbeats 4000000 in
theorem run_any (g : Nat) (s : List UInt8) (k : Nat) (c : Int) (w : World) (hr : Rd w g s k) (hf : k ≤ s.length) (hs : s.length ≤ 1000) :
    Calls Tryd.prog 106 #[.pointer (some ⟨g, 0, none⟩), .int .i64 c] w (PPost (cntL s k) (runV c) g s w) := by
  obtain ⟨z0, x0, oW⟩ := runW_at w c
  have hrW := hr.other oW (fun h => h)
  have PK := Lib.hid (peek_any g s k (runW w c) hrW)
  unfold runV pcV SV
  have hgb : g < w.heap.size := hr.lt
  go_enter Tryd.func106, Tryd.ntmps106
  go_wp2_with fail
  refine PK.out.mono ?_
  rintro e w2 ⟨rfl, o2⟩
  have z2 := z0.other o2 (fun h => h)
  have x2 := x0.other o2 (fun h => h)
  have r2 := hrW.other o2 (fun h => h)
  have O2 : Hid (Only (Run g w.heap.size) w w2) := (oW.nob o2).mono (fun _ _ h => h.elim)
  clear PK hr hrW z0 x0 oW o2
  have Z := Lib.hid (fun (w' : World) (o : Only (Oth w.heap.size) w2 w') => z2.other o (fun h => h rfl))
  have X := Lib.hid (fun (w' : World) (o : Only (Is g) w2 w') => x2.other o (fun h => by have : w.heap.size + 1 = g := h; omega))
  obtain ⟨⟨z00, z01, z02, z03⟩, zf0, zf1, zf2, zf3⟩ := z2.cells
  obtain ⟨⟨x00, x01, x02, x03⟩, xf0, xf1, xf2, xf3⟩ := x2.cells
  obtain ⟨c0, c1, cf⟩ := r2.cells
  have HB := Lib.hid (fun h => braces_any g s k w2 r2 h hs)
  have HS := Lib.hid (r2.set (k + 1))
  have R2 := Lib.hid r2
  have C1 := Lib.hid (@cnt_plus s k)
  have C2 := Lib.hid (@cnt_star s k)
  have C3 := Lib.hid (@cnt_brc s k)
  have C4 := Lib.hid (@cnt_one s k)
  have hk0 := Lib.hid (fun h => peekL_some (s := s) (k := k) h)
  have hc8 := (peekL s k).toNat_lt
  clear r2 z2 x2
  obtain ⟨cN, hcN⟩ : ∃ cN, cN = (peekL s k).toNat := ⟨_, rfl⟩
  have hk1 := Lib.hid hcN.symm
  rw [← hcN] at hc8 C1 C2 C3 C4 ⊢
  clear hcN
  have g1 : Oth w.heap.size g := by unfold Oth; omega
  have g2 : Oth w.heap.size (w.heap.size + 1) := by unfold Oth; omega
  have g3 : Run g w.heap.size w.heap.size := .inr (by omega)
  have g4 : Run g w.heap.size (w.heap.size + 1) := .inr (by omega)
  have g5 : Run g w.heap.size g := .inl rfl
  have G := Lib.hid (And.intro g1 (And.intro g2 (And.intro g3 (And.intro g4 g5))))
  clear g1 g2 g3 g4 g5
  by_cases h1 : cN = 43
  · subst h1
    have HE := Lib.hid (C1.out rfl)
    go_wp2_with fail
    obtain ⟨g1, g2, g3, g4, g5⟩ := G.out
    refine bodyPost_ret (res106 _ _ w.heap.size ⟨c, 1, 200, []⟩ rfl ((Z.out _ (((Only.refl _ _).put _ _ _ g1).put _ _ _ g2)).set4 _ _ _ [])) rfl ?_
    refine PPost.ok HE.out rfl (only_run ((((((O2.out.put _ _ _ g5).put _ _ _ g4).put _ _ _ g3).put _ _ _ g3).put _ _ _ g3).put _ _ _ g3)) ?_
    exact HS.out.other (S := Oth g) ((((((Only.refl _ _).put _ _ _ (by unfold Oth; omega)).put _ _ _ (by unfold Oth; omega)).put _ _ _ (by unfold Oth; omega)).put _ _ _ (by unfold Oth; omega)).put _ _ _ (by unfold Oth; omega)) (fun h => h rfl)
  have h1' : ¬ (cN : Int) = 43 := by omega
  by_cases h2 : cN = 42
  · subst h2
    have HE := Lib.hid (C2.out rfl)
    go_wp2_with fail
    obtain ⟨g1, g2, g3, g4, g5⟩ := G.out
    refine bodyPost_ret (res106 _ _ w.heap.size ⟨c, 0, 200, []⟩ rfl ((Z.out _ ((((Only.refl _ _).put _ _ _ g1).put _ _ _ g2).put _ _ _ g2)).set4 _ _ _ [])) rfl ?_
    refine PPost.ok HE.out rfl (only_run (((((((O2.out.put _ _ _ g5).put _ _ _ g4).put _ _ _ g4).put _ _ _ g3).put _ _ _ g3).put _ _ _ g3).put _ _ _ g3)) ?_
    exact HS.out.other (S := Oth g) (((((((Only.refl _ _).put _ _ _ (by unfold Oth; omega)).put _ _ _ (by unfold Oth; omega)).put _ _ _ (by unfold Oth; omega)).put _ _ _ (by unfold Oth; omega)).put _ _ _ (by unfold Oth; omega)).put _ _ _ (by unfold Oth; omega)) (fun h => h rfl)
  have h2' : ¬ (cN : Int) = 42 := by omega
  by_cases h3 : cN = 123
  · subst h3
    have HE := Lib.hid (C3.out rfl)
    have hb := HB.out (hk0.out (fun e => by have := hk1.out; rw [e] at this; exact absurd this (by decide)))
    clear HB
    unfold twoI at hb
    have HBB := Lib.hid hb
    clear hb
    go_wp2_with fail
    refine HBB.out.mono ?_
    clear HBB c0 c1 cf x00 x01 x02 x03 xf0 xf1 xf2 xf3 z00 z01 z02 z03 zf0 zf1 zf2 zf3
    cases hN : bracesL s k with
    | error ae =>
      obtain ⟨a, ae⟩ := ae
      rintro e w3 ⟨o3, rfl⟩
      exact ⟨rfl, PPost.bad (HE.out.trans hN) (only_run (O2.out.trans o3 (fun i _ h => .inl h)))⟩
    | ok nk =>
      obtain ⟨⟨l, m⟩, k3⟩ := nk
      rintro e w3 ⟨o3, rfl, r3⟩
      have z3 := Z.out w3 (o3.mono (fun i _ h => by have : i = g := h; unfold Oth; omega))
      obtain ⟨⟨x00, x01, x02, x03⟩, xf0, xf1, xf2, xf3⟩ := (X.out w3 o3).cells
      obtain ⟨⟨z00, z01, z02, z03⟩, zf0, zf1, zf2, zf3⟩ := z3.cells
      have O3 := Lib.hid (O2.out.trans o3 (fun i _ h => .inl h))
      have R3 := Lib.hid r3
      have Z3 := Lib.hid (fun (w' : World) (o : Only (Oth w.heap.size) w3 w') => z3.other o (fun h => h rfl))
      rw [hN] at HE
      clear r3 o3 hN z3
      go_wp2_with fail
      obtain ⟨g1, g2, g3, g4, g5⟩ := G.out
      refine bodyPost_ret (res106 _ _ w.heap.size ⟨c, l, m, []⟩ rfl ((Z3.out _ (((Only.refl _ _).put _ _ _ g2).put _ _ _ g2)).set4 _ _ _ [])) rfl ?_
      refine PPost.ok HE.out rfl (only_run ((((((O3.out.put _ _ _ g4).put _ _ _ g4).put _ _ _ g3).put _ _ _ g3).put _ _ _ g3).put _ _ _ g3)) ?_
      exact R3.out.other (S := Oth g) (((((((Only.refl _ _).put _ _ _ (by unfold Oth; omega)).put _ _ _ (by unfold Oth; omega)).put _ _ _ (by unfold Oth; omega)).put _ _ _ (by unfold Oth; omega)).put _ _ _ (by unfold Oth; omega)).put _ _ _ (by unfold Oth; omega)) (fun h => h rfl)
  clear hk1
  have h3' : ¬ (cN : Int) = 123 := by omega
  have HE := Lib.hid (C4.out h1 h2 h3)
  go_wp2_with fail
  obtain ⟨g1, g2, g3, g4, g5⟩ := G.out
  refine bodyPost_ret (res106 _ _ w.heap.size ⟨c, 1, 1, []⟩ rfl ((Z.out _ (Only.refl _ _)).set4 _ _ _ [])) rfl ?_
  refine PPost.ok HE.out rfl (only_run ((((O2.out.put _ _ _ g3).put _ _ _ g3).put _ _ _ g3).put _ _ _ g3)) ?_
  exact R2.out.other (S := Oth g) (((((Only.refl _ _).put _ _ _ (by unfold Oth; omega)).put _ _ _ (by unfold Oth; omega)).put _ _ _ (by unfold Oth; omega)).put _ _ _ (by unfold Oth; omega)) (fun h => h rfl)

end Go.Proofs.YtddjbfmohibgbaaDoor
