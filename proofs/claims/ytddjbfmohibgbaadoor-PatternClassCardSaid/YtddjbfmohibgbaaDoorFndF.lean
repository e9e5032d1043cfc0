/- One find. -/
import Derived.Test.YtddjbfmohibgbaaDoorFndC
import Derived.Test.YtddjbfmohibgbaaDoorRnd
namespace Go.Proofs.YtddjbfmohibgbaaDoor
open Go.RowKit Go.Shelf

attribute [local go_sem] Oper.semAt_some

/-- The n-th find, and whether there is one. -/
def findR (L : List (Nat × Nat)) (n : Int) : Nat × Nat × Bool := if 1 ≤ n ∧ n ≤ (L.length : Int) then ((L.getD (n.toNat - 1) (0, 0)).1, (L.getD (n.toNat - 1) (0, 0)).2, true) else (0, 0, false)
def findV (r : Nat × Nat × Bool) : Value := .tuple #[.int .i64 (r.1 : Nat), .int .i64 (r.2.1 : Nat), .bool r.2.2]

/-- The world in which the loop over the finds begins: the number asked for, the three results, the counter. -/
def findW (w : World) (n : Int) : World := ((((w.alloc (.cells #[.int .i64 n] 3)).alloc (.cells #[.int .i64 0] 3)).alloc (.cells #[.int .i64 0] 3)).alloc (.cells #[.bool false] 4)).alloc (.cells #[.int .i64 0] 3)

theorem findW_at (w : World) (n : Int) : (findW w n).heap.size = w.heap.size + 5 ∧ Only Nob w (findW w n) ∧ Boxed (findW w n) w.heap.size 3 (.int .i64 n) ∧ Boxed (findW w n) (w.heap.size + 1) 3 (.int .i64 0) ∧
    Boxed (findW w n) (w.heap.size + 1 + 1) 3 (.int .i64 0) ∧ Boxed (findW w n) (w.heap.size + 1 + 1 + 1) 4 (.bool false) ∧ Boxed (findW w n) (w.heap.size + 1 + 1 + 1 + 1) 3 (.int .i64 0) := by
  unfold findW
  have h1 := Boxed.new w 3 (.int .i64 n)
  have z1 : (w.alloc (.cells #[.int .i64 n] 3)).heap.size = w.heap.size + 1 := by simp
  have o1 : Only Nob w (w.alloc (.cells #[.int .i64 n] 3)) := Only.alloc _ _ _
  generalize w.alloc (.cells #[.int .i64 n] 3) = w1 at *
  have h2 := Boxed.new w1 3 (.int .i64 0)
  have h1 := h1.alloc (.cells #[.int .i64 0] 3)
  have z2 : (w1.alloc (.cells #[.int .i64 0] 3)).heap.size = w1.heap.size + 1 := by simp
  have o2 : Only Nob w1 (w1.alloc (.cells #[.int .i64 0] 3)) := Only.alloc _ _ _
  generalize w1.alloc (.cells #[.int .i64 0] 3) = w2 at *
  have h3 := Boxed.new w2 3 (.int .i64 0)
  have h1 := h1.alloc (.cells #[.int .i64 0] 3)
  have h2 := h2.alloc (.cells #[.int .i64 0] 3)
  have z3 : (w2.alloc (.cells #[.int .i64 0] 3)).heap.size = w2.heap.size + 1 := by simp
  have o3 : Only Nob w2 (w2.alloc (.cells #[.int .i64 0] 3)) := Only.alloc _ _ _
  generalize w2.alloc (.cells #[.int .i64 0] 3) = w3 at *
  have h4 := Boxed.new w3 4 (.bool false)
  have h1 := h1.alloc (.cells #[.bool false] 4)
  have h2 := h2.alloc (.cells #[.bool false] 4)
  have h3 := h3.alloc (.cells #[.bool false] 4)
  have z4 : (w3.alloc (.cells #[.bool false] 4)).heap.size = w3.heap.size + 1 := by simp
  have o4 : Only Nob w3 (w3.alloc (.cells #[.bool false] 4)) := Only.alloc _ _ _
  generalize w3.alloc (.cells #[.bool false] 4) = w4 at *
  have h5 := Boxed.new w4 3 (.int .i64 0)
  have h1 := h1.alloc (.cells #[.int .i64 0] 3)
  have h2 := h2.alloc (.cells #[.int .i64 0] 3)
  have h3 := h3.alloc (.cells #[.int .i64 0] 3)
  have h4 := h4.alloc (.cells #[.int .i64 0] 3)
  rw [z4, z3, z2, z1] at h5
  rw [z3, z2, z1] at h4
  rw [z2, z1] at h3
  rw [z1] at h2
  exact ⟨by simp; omega, (((o1.nob o2).nob o3).nob o4).nob (Only.alloc _ _ _), h1, h2, h3, h4, h5⟩

/-- Between two rounds of the seeking loop. -/
def FndJ {k : Nat} (g : Nat) (n : Int) (W0 : World) (pre : List (FndA k)) (W : World) : Prop :=
  Boxed W (g + 1 + 1 + 1 + 1) 3 (.int .i64 (pre.length : Nat)) ∧ Only (fun i => i = g + 1 + 1 + 1 + 1 ∨ W0.heap.size ≤ i) W0 W ∧ (n < 1 ∨ (pre.length : Int) < n)
/-- Where the loop is left: the find is there. -/
def FndX {k : Nat} (g : Nat) (n : Int) (W0 : World) (c : Code) (pre : List (FndA k)) (W : World) : Prop :=
  c = .ret ∧ ∃ q x, pre = q ++ [x] ∧ (pre.length : Int) = n ∧ Boxed W (g + 1) 3 (.int .i64 (x.1.1 : Nat)) ∧ Boxed W (g + 1 + 1) 3 (.int .i64 (x.1.2 : Nat)) ∧ Boxed W (g + 1 + 1 + 1) 4 (.bool true) ∧ Only (fun i => g < i ∧ i ≤ g + 4 ∨ W0.heap.size ≤ i) W0 W
/-- The loop's variable in its box. -/
def FndA1 {k : Nat} (g B : Nat) (T : Array Value) (x : FndA k) (a : Act) (W : World) : Prop :=
  ∃ C, a = { tmps := (T.setIfInBounds 14 (.agg #[.int .i64 (x.1.1 : Nat), .int .i64 (x.1.2 : Nat)])).setIfInBounds 10 (.pointer (some ⟨C, 0, none⟩)), defers := [] } ∧ B ≤ C ∧ g + 5 ≤ C ∧
    W.heap[C]? = some (.cells #[.int .i64 (x.1.1 : Nat), .int .i64 (x.1.2 : Nat)] 103 (0, 0))

theorem boxed_grown {W W' : World} {B : Nat} {t : TypeId} {v : Value} {row : Option Nat} (h : Boxed W B t v) (hg : W.grownBy W' row) (hr : ∀ r, row = some r → ∃ o : Obj, W.heap[r]? = some o ∧ o.isCells = false) : Boxed W' B t v :=
  ((grown_only hg).block B h.lt (not_row hr ⟨_, h, rfl⟩)).trans h
theorem boxed_other {S : Nat → Prop} {W W' : World} {B : Nat} {t : TypeId} {v : Value} (h : Boxed W B t v) (ho : Only S W W') (hn : ¬ S B) : Boxed W' B t v := (ho.block B h.lt hn).trans h

theorem fndJ_own {k : Nat} (g : Nat) (n : Int) (W0 : World) : OwnFrom W0.heap.size (FndJ (k := k) g n W0) := fun s W W' r hs hg hr => by
  obtain ⟨h1, h2, h3⟩ := hs
  exact ⟨boxed_grown h1 hg (fun q e => (hr q e).2), h2.trans (grown_only hg) (fun k _ hk => .inr (hr k hk).1), h3⟩
theorem fndX_own {k : Nat} (g : Nat) (n : Int) (W0 : World) (c : Code) : OwnFrom W0.heap.size (FndX (k := k) g n W0 c) := fun s W W' r hs hg hr => by
  obtain ⟨hc, q, x, h0, h1, h2, h3, h4, h5⟩ := hs
  have f := fun q e => (hr q e).2
  exact ⟨hc, q, x, h0, h1, boxed_grown h2 hg f, boxed_grown h3 hg f, boxed_grown h4 hg f, h5.trans (grown_only hg) (fun k _ hk => .inr (hr k hk).1)⟩
theorem fndA1_own {k : Nat} (g B : Nat) (T : Array Value) (x : FndA k) (a : Act) : OwnFrom B (fun (_ : Unit) W => FndA1 g B T x a W) := fun _ W W' r hs hg hr => by
  obtain ⟨C, h1, h2, h4, h3⟩ := hs
  exact ⟨C, h1, h2, h4, ((grown_only hg).block C (lt_of_heap h3) (not_row (fun q e => (hr q e).2) ⟨_, h3, rfl⟩)).trans h3⟩

theorem find_last {k : Nat} {L : List (Nat × Nat)} {pre q : List (FndA k)} {x : FndA k} {n : Int} (h : pre.map (·.1) <+: L) (hp : pre = q ++ [x]) (hn : (pre.length : Int) = n) : findR L n = (x.1.1, x.1.2, true) := by
  obtain ⟨r, hr⟩ := h
  subst hp
  rw [List.length_append, List.length_singleton] at hn
  have e : L = q.map (·.1) ++ x.1 :: r := by rw [← hr]; simp
  have hl : L.length = q.length + (r.length + 1) := by rw [e]; simp
  have e2 : L.getD (n.toNat - 1) (0, 0) = x.1 := by
    rw [show n.toNat - 1 = q.length by omega, e]
    simp [List.getD_eq_getElem?_getD]
  unfold findR
  rw [if_pos (by omega), e2]

theorem stores3 {W : World} {g : Nat} {v1 v2 v3 : Value} (h1 : Boxed W (g + 1) 3 v1) (h2 : Boxed W (g + 1 + 1) 3 v2) (h3 : Boxed W (g + 1 + 1 + 1) 4 v3) (a b c : Value) :
    Boxed (((W.setCell ⟨g + 1, 0, none⟩ a).setCell ⟨g + 1 + 1, 0, none⟩ b).setCell ⟨g + 1 + 1 + 1, 0, none⟩ c) (g + 1) 3 a ∧ Boxed (((W.setCell ⟨g + 1, 0, none⟩ a).setCell ⟨g + 1 + 1, 0, none⟩ b).setCell ⟨g + 1 + 1 + 1, 0, none⟩ c) (g + 1 + 1) 3 b ∧
    Boxed (((W.setCell ⟨g + 1, 0, none⟩ a).setCell ⟨g + 1 + 1, 0, none⟩ b).setCell ⟨g + 1 + 1 + 1, 0, none⟩ c) (g + 1 + 1 + 1) 4 c ∧
    Only (fun i => g < i ∧ i ≤ g + 3) W (((W.setCell ⟨g + 1, 0, none⟩ a).setCell ⟨g + 1 + 1, 0, none⟩ b).setCell ⟨g + 1 + 1 + 1, 0, none⟩ c) := by
  refine ⟨((h1.set a).other (by omega) _).other (by omega) _, ((h2.other (by omega) a).set b).other (by omega) _, ((h3.other (by omega) a).other (by omega) b).set c, ?_⟩
  exact ((Only.setCell _ _ _ (by show g < g + 1 ∧ g + 1 ≤ g + 3; omega)).trans (Only.setCell _ _ _ (by show g < g + 1 + 1 ∧ g + 1 + 1 ≤ g + 3; omega)) (fun _ _ h => h)).trans (Only.setCell _ _ _ (by show g < g + 1 + 1 + 1 ∧ g + 1 + 1 + 1 ≤ g + 3; omega)) (fun _ _ h => h)

theorem res32 (tmps : Array Value) (w : World) (b : Nat) (r : Nat × Nat × Bool) (h6 : tmps.getD 6 undef = .pointer (some ⟨b + 1, 0, none⟩)) (h7 : tmps.getD 7 undef = .pointer (some ⟨b + 1 + 1, 0, none⟩)) (h8 : tmps.getD 8 undef = .pointer (some ⟨b + 1 + 1 + 1, 0, none⟩))
    (c1 : Boxed w (b + 1) 3 (.int .i64 (r.1 : Nat))) (c2 : Boxed w (b + 1 + 1) 3 (.int .i64 (r.2.1 : Nat))) (c3 : Boxed w (b + 1 + 1 + 1) 4 (.bool r.2.2)) : (results Tryd.f32 tmps).run Tryd.prog w = .ok (findV r) w := by
  simp only [results, show Tryd.f32.results = #[.cell 6 3, .cell 7 3, .cell 8 4] from rfl]
  have g6 : tmps[6]?.getD undef = .pointer (some ⟨b + 1, 0, none⟩) := by simpa using h6
  have g7 : tmps[7]?.getD undef = .pointer (some ⟨b + 1 + 1, 0, none⟩) := by simpa using h7
  have g8 : tmps[8]?.getD undef = .pointer (some ⟨b + 1 + 1 + 1, 0, none⟩) := by simpa using h8
  have k1 := c1.cell
  have k2 := c2.cell
  have k3 := c3.cell
  simp [go_sem, g6, g7, g8, k1, k2, k3, findV]

set_option maxRecDepth 100000 in
set_option maxHeartbeats 4000000 in
theorem find_any (v : Value) (p : List Pc) (s : List UInt8) (n : Int) (w : World) (hp : Pcs w v p) (fp : Fair p) (ht : Tab w) (hs : s.length ≤ 1000) :
    Calls Tryd.prog 32 #[v, .string ⟨s.toArray⟩, .int .i64 n] w fun e w' => e = .returned (findV (findR (findsL p s) n)) ∧ Only Nob w w' := by
  obtain ⟨ao, cap, rfl⟩ := hp.form
  refine (callsIn_wide (n := 10)).1 ?_
  refine callsIn_of_wp_marks Tryd.func32 rfl trivial ?_ rfl
  simp only [Tryd.ntmps32, List.size_toArray, List.length_cons, List.length_nil, Nat.reduceAdd, Nat.reduceSub, Array.replicate_succ, Array.replicate_zero, List.push_toArray, List.append_toArray, List.nil_append, List.cons_append]
  refine wpIn_wide.2 ?_
  have HP := Lib.hid (And.intro hp ht)
  clear hp ht
  go_wp2_with fail
  refine (finds_any _ _ _ s _).mono ?_
  rintro e w' ⟨rfl, rfl⟩
  go_wp2_with fail
  obtain ⟨hz, oA, b0, b1, b2, b3, b4⟩ := findW_at w n
  rw [show ((((w.alloc (.cells #[.int .i64 n] 3)).alloc (.cells #[.int .i64 0] 3)).alloc (.cells #[.int .i64 0] 3)).alloc (.cells #[.bool false] 4)).alloc (.cells #[.int .i64 0] 3) = findW w n from rfl]
  generalize findW w n = wA at hz oA b0 b1 b2 b3 b4 ⊢
  obtain ⟨hz4, o4, -⟩ := findsW_at wA (.slice ao p.length cap) s
  have hst4 := finds_stops _ p s (fun i => w.heap.size < i ∧ i ≤ w.heap.size + 4 ∨ (findsW wA (.slice ao p.length cap) s).heap.size ≤ i) w wA HP.out.1 fp HP.out.2 oA hs (fun i hi => by omega)
  rw [hz] at hst4 hz4
  have oW := oA.nob o4
  have b0 := boxed_other b0 o4 (fun h => h)
  have b1 := boxed_other b1 o4 (fun h => h)
  have b2 := boxed_other b2 o4 (fun h => h)
  have b3 := boxed_other b3 o4 (fun h => h)
  have b4 := boxed_other b4 o4 (fun h => h)
  generalize findsW wA (.slice ao p.length cap) s = w4 at hz4 o4 b0 b1 b2 b3 b4 hst4 oW ⊢
  refine wpIn_wide.1 (?_ : Code.wpIn Fence.wide 10 _ _ _ _ _)
  refine (?_ : ∀ A : Act, A = _ → Code.wpIn Fence.wide 10 _ _ _ A _) _ rfl
  intro A hA
  refine wpIn_rangeFunc_ownH rfl (by decide) (gf := 114) (lb := #[.pointer (some ⟨w.heap.size + 5, 0, none⟩), .pointer (some ⟨w.heap.size + 5 + 1, 0, none⟩)]) (by rw [hA]; rfl) trivial (enters_of Tryd.func114 (by kernel_rfl) rfl)
    hst4 (fun h k => h.trans k (fun _ _ h => h)) (fun W l o o' hl _ _ _ => only_putObj W l o' (.inr (by omega))) (Below.refl _ _) (fun _ => rfl)
    (FndJ w.heap.size n w4) (FndX w.heap.size n w4) (fndJ_own _ _ _) (fndX_own _ _ _) ⟨b4, Only.refl _ _, by show n < 1 ∨ ((0 : Nat) : Int) < n; omega⟩
    (FndA1 w.heap.size w4.heap.size A.tmps) (fndA1_own _ _ _) ?assign ?body ?done ?stop
  case assign =>
    intro l pre x W K hI hK
    subst hA
    dsimp only [fndV]
    have HI := Lib.hid hI
    have HK := Lib.hid hK
    clear hI hK
    gi_wp2
    have hz5 := HI.out.2.1.size
    refine HK.out _ _ (KeepsFrom.of_grownBy (World.grownBy_alloc W _ none) (fun j h => (by cases h))) (Only.alloc _ _ _) ((fndJ_own _ _ _).alloc _ HI.out) ⟨W.heap.size, rfl, hz5, by omega, heap_alloc_new _ _⟩
  case body =>
    rintro l pre x a' W hl hr hI ⟨C, ha, hC, hC5, hcell⟩ hlen
    subst ha
    subst hA
    simp only [List.setIfInBounds_toArray, List.set_cons_zero, List.set_cons_succ]
    obtain ⟨h1, h2, h3⟩ := hI
    have k0 := boxed_other b0 h2 (fun h => by have := b0.lt; omega)
    have k1 := boxed_other b1 h2 (fun h => by have := b1.lt; omega)
    have k2 := boxed_other b2 h2 (fun h => by have := b2.lt; omega)
    have k3 := boxed_other b3 h2 (fun h => by have := b3.lt; omega)
    have H2 := Lib.hid h2
    have H3 := Lib.hid h3
    obtain ⟨q, hq⟩ : ∃ q, q = pre.length + 1 := ⟨_, rfl⟩
    have hw1 : IntKind.i64.wrap ((pre.length : Nat) + 1 : Int) = (q : Int) := by rw [IntWalk.i64_in _ (by omega)]; omega
    have cn := h1.cell
    have fn := h1.frozen
    have m4 := h1.set (.int .i64 (q : Int))
    have oS : Only (Is (w.heap.size + 1 + 1 + 1 + 1)) W (W.setCell ⟨w.heap.size + 1 + 1 + 1 + 1, 0, none⟩ (.int .i64 (q : Int))) := Only.setCell _ _ _ rfl
    have hd : ∀ j, j ≠ w.heap.size + 1 + 1 + 1 + 1 → ¬ Is (w.heap.size + 1 + 1 + 1 + 1) j := fun j h e => h e
    have m0 := boxed_other k0 oS (hd _ (by omega))
    have m1 := boxed_other k1 oS (hd _ (by omega))
    have m2 := boxed_other k2 oS (hd _ (by omega))
    have m3 := boxed_other k3 oS (hd _ (by omega))
    have mC := (oS.block C (lt_of_heap hcell) (hd _ (by omega))).trans hcell
    have cm4 := m4.cell
    have cm0 := m0.cell
    have M := Lib.hid (And.intro m1 (And.intro m2 (And.intro m3 (And.intro m4 oS))))
    have MC := Lib.hid mC
    have KB := Lib.hid (show KeepsFrom w4.heap.size W (W.setCell ⟨w.heap.size + 1 + 1 + 1 + 1, 0, none⟩ (.int .i64 (q : Int))) from
      (keeps_only oS (fun i hi _ => by obtain rfl : i = _ := hi; exact ⟨_, h1, rfl⟩)).from _)
    have HQ := Lib.hid hq
    clear hq
    have H1 := Lib.hid h1
    clear h1 h2 h3 b0 b1 b2 b3 b4 k0 k1 k2 k3 m0 m1 m2 m3 m4 oS mC hcell hd
    by_cases hnn : (q : Int) = n
    · have HN := Lib.hid hnn
      have hn1 : ((q : Int) == n) = true := by simpa using hnn
      clear hnn
      gi_wp2
      have MCC := MC.out
      have SA : ∀ w' : World, w'.heap[C]? = some (.cells #[.int .i64 (x.1.1 : Nat), .int .i64 (x.1.2 : Nat)] 103 (0, 0)) → w'.cell? ⟨C, 0, none⟩ = some (.int .i64 (x.1.1 : Nat)) ∧ w'.cell? ⟨C, 1, none⟩ = some (.int .i64 (x.1.2 : Nat)) := fun w' h => by simp [World.cell?, h]
      have HSA := Lib.hid SA
      have f1 := M.out.1.frozen
      have f2 := M.out.2.1.frozen
      have f3 := M.out.2.2.1.frozen
      have g1 := M.out.1.cell
      have g2 := M.out.2.1.cell
      have g3 := M.out.2.2.1.cell
      refine wpIn_round_held (fun w' => w'.cell? ⟨C, 0, none⟩ = some (.int .i64 (x.1.1 : Nat)) ∧ w'.cell? ⟨C, 1, none⟩ = some (.int .i64 (x.1.2 : Nat))) l _ (by kernel_rfl) (fun ⟨_, _, h⟩ => h) ?nd (SA _ MCC) ?_
      case nd =>
        intro i o ho c
        match i, ho with
        | 0, ho => cases ho; intro h; cases h
        | 1, ho => cases ho; intro h; cases h
        | 2, ho => cases ho; intro h; cases h
        | 3, ho => cases ho; intro h; cases h
        | 4, ho => cases ho; intro h; cases h
        | 5, ho => cases ho; intro h; cases h
        | 6, ho => cases ho; intro h; cases h
        | i + 7, ho => cases ho
      have KC := Lib.hid (show ∀ (W' : World) (b : Nat) (v : Value), C ≠ b → W'.heap[C]? = some (.cells #[.int .i64 (x.1.1 : Nat), .int .i64 (x.1.2 : Nat)] 103 (0, 0)) → (W'.setCell ⟨b, 0, none⟩ v).heap[C]? = some (.cells #[.int .i64 (x.1.1 : Nat), .int .i64 (x.1.2 : Nat)] 103 (0, 0)) from
        fun W' b v hb h => (heap_setCell_other W' ⟨b, 0, none⟩ C v hb).trans h)
      clear SA MCC
      intro hHeld
      refine wpAnyH_take (i := 0) (oi := _) (v := .pointer (some ⟨C, 0, none⟩)) rfl (by kernel_rfl) (by kernel_rfl) (by kernel_rfl) (fun _ _ _ h => h) (Or.inl ⟨by rfl, by intro w hSw; (try dsimp only at hSw); go_simp⟩) (by assumption) ?_
      simp only [Act.put, List.setIfInBounds_toArray]
      refine wpAnyH_take (i := 1) (oi := _) (v := .int .i64 (x.1.1 : Nat)) rfl (by kernel_rfl) (by kernel_rfl) (by kernel_rfl) (fun _ _ _ h => h) (Or.inl ⟨by rfl, by intro w hSw; (try dsimp only at hSw); go_simp⟩) (by assumption) ?_
      simp only [Act.put]
      refine wpAnyH_take (i := 2) (oi := _) (v := .pointer (some ⟨C, 1, none⟩)) rfl (by kernel_rfl) (by kernel_rfl) (by kernel_rfl) (fun _ _ _ h => h) (Or.inl ⟨by rfl, by intro w hSw; (try dsimp only at hSw); go_simp⟩) (by assumption) ?_
      simp only [Act.put]
      refine wpAnyH_take (i := 3) (oi := _) (v := .int .i64 (x.1.2 : Nat)) rfl (by kernel_rfl) (by kernel_rfl) (by kernel_rfl) (fun _ _ _ h => h) (Or.inl ⟨by rfl, by intro w hSw; (try dsimp only at hSw); go_simp⟩) (by assumption) ?_
      simp only [Act.put]
      refine wpAnyH_ready (rs := [4]) (by kernel_rfl) (by simp) ?_
      refine AllReadyH.cons (o := _) rfl (fun K hK => ?_) AllReadyH.nil
      go_simp
      refine hK.out _ _ (HSA.out _ (KC.out _ (w.heap.size + 1) _ (by omega) MC.out)) (fun _ => ?_)
      clear hK K
      try simp only [Act.put, List.setIfInBounds_toArray, List.set_cons_zero, List.set_cons_succ]
      refine wpAnyH_ready (rs := [5]) (by kernel_rfl) (by simp) ?_
      refine AllReadyH.cons (o := _) rfl (fun K hK => ?_) AllReadyH.nil
      go_simp
      refine hK.out _ _ (HSA.out _ (KC.out _ (w.heap.size + 1 + 1) _ (by omega) (KC.out _ (w.heap.size + 1) _ (by omega) MC.out))) (fun _ => ?_)
      clear hK K
      try simp only [Act.put, List.setIfInBounds_toArray, List.set_cons_zero, List.set_cons_succ]
      refine wpAnyH_ready (rs := [6]) (by kernel_rfl) (by simp) ?_
      refine AllReadyH.cons (o := _) rfl (fun K hK => ?_) AllReadyH.nil
      go_simp
      refine hK.out _ _ (HSA.out _ (KC.out _ (w.heap.size + 1 + 1 + 1) _ (by omega) (KC.out _ (w.heap.size + 1 + 1) _ (by omega) (KC.out _ (w.heap.size + 1) _ (by omega) MC.out)))) (fun _ => ?_)
      clear hK K
      try simp only [Act.put, List.setIfInBounds_toArray, List.set_cons_zero, List.set_cons_succ]
      refine wpAnyH_done (by kernel_rfl) ?_ _
      gi_wp2
      obtain ⟨n1, n2, n3, n4, oS⟩ := M.out
      obtain ⟨r1, r2, r3, r4⟩ := stores3 n1 n2 n3 (.int .i64 (x.1.1 : Nat)) (.int .i64 (x.1.2 : Nat)) (.bool true)
      have r4 := r4.trans (Only.drew (fun i => w.heap.size < i ∧ i ≤ w.heap.size + 3) _) (fun _ _ h => h)
      refine ⟨KB.out.trans ((keeps_only r4 (fun i hi _ => ?_)).from _), rfl, pre, x, rfl, ?_, r1, r2, r3, ?_⟩
      · have : i = w.heap.size + 1 ∨ i = w.heap.size + 1 + 1 ∨ i = w.heap.size + 1 + 1 + 1 := by omega
        rcases this with rfl | rfl | rfl
        · exact ⟨_, n1, rfl⟩
        · exact ⟨_, n2, rfl⟩
        · exact ⟨_, n3, rfl⟩
      · rw [List.length_append, ← HN.out, HQ.out]; rfl
      · refine (H2.out.mono (fun i _ hi => ?_)).trans ((oS.mono (T := fun i => w.heap.size < i ∧ i ≤ w.heap.size + 4 ∨ w4.heap.size ≤ i) (fun i _ hi => ?_)).trans (r4.mono (fun i _ hi => ?_)) (fun _ _ h => h)) (fun _ _ h => h)
        · rcases hi with h | h
          · exact .inl (by omega)
          · exact .inr h
        · have : i = w.heap.size + 1 + 1 + 1 + 1 := hi
          exact .inl (by omega)
        · exact .inl (by omega)
    · have HN := Lib.hid hnn
      have hn1 : ((q : Int) == n) = false := by simpa using hnn
      clear hnn
      gi_wp2
      obtain ⟨n1, n2, n3, n4, oS⟩ := M.out
      refine ⟨by rw [← hz4]; exact KB.out, oS.mono (fun i _ hi => ?_), ?_, H2.out.trans oS (fun i _ hi => .inl hi), ?_⟩
      · have : i = w.heap.size + 1 + 1 + 1 + 1 := hi
        exact .inl (by omega)
      · rw [List.length_append]
        have e := HQ.out
        rw [e] at n4
        rw [e]
        exact n4
      · have h1 := H3.out
        have h2 := HN.out
        have h3 := HQ.out
        rw [List.length_append]
        simp only [List.length_singleton]
        omega
  case done =>
    intro D ys W hD hS ⟨h4, hO, hn⟩ hK
    subst hA
    have k1 := boxed_other b1 hO (fun h => by have := b1.lt; omega)
    have k2 := boxed_other b2 hO (fun h => by have := b2.lt; omega)
    have k3 := boxed_other b3 hO (fun h => by have := b3.lt; omega)
    obtain ⟨r1, r2, r3, r4⟩ := stores3 k1 k2 k3 (.int .i64 0) (.int .i64 0) (.bool false)
    have c1 := k1.cell
    have c2 := k2.cell
    have c3 := k3.cell
    have f1 := k1.frozen
    have f2 := k2.frozen
    have f3 := k3.frozen
    have hyl : ys.length = (findsL p s).length := by rw [← hS, List.length_map]
    have hR : findR (findsL p s) n = (0, 0, false) := by unfold findR; rw [if_neg (by omega)]
    have oT : Only Nob w W := oW.trans hO (fun i hi h => by omega)
    have HM := Lib.hid (show Marks (((W.setCell ⟨w.heap.size + 1, 0, none⟩ (.int .i64 0)).setCell ⟨w.heap.size + 1 + 1, 0, none⟩ (.int .i64 0)).setCell ⟨w.heap.size + 1 + 1 + 1, 0, none⟩ (.bool false)) (w.heap.size + 5) W.heap.size [{ target := .collected D, args := #[] }] from
      ⟨D, rfl, by omega, lt_of_heap hK, (r4.block D (lt_of_heap hK) (by omega)).trans hK, trivial⟩)
    have HT := Lib.hid (show Only Nob w (((W.setCell ⟨w.heap.size + 1, 0, none⟩ (.int .i64 0)).setCell ⟨w.heap.size + 1 + 1, 0, none⟩ (.int .i64 0)).setCell ⟨w.heap.size + 1 + 1 + 1, 0, none⟩ (.bool false)) from oT.trans r4 (fun i hi h => by omega))
    have HR := Lib.hid (And.intro r1 (And.intro r2 r3))
    have HRR := Lib.hid hR
    have hsz := r4.size
    clear h4 hO hn hS hyl hK oT r1 r2 r3 r4 k1 k2 k3 hR b0 b1 b2 b3 b4
    go_wp2_with fail
    refine leaves_marks _ W.heap.size _ HM.out hsz (fun w' o => ?_)
    refine ⟨_, res32 _ _ w.heap.size (0, 0, false) rfl rfl rfl (boxed_other HR.out.1 o (by omega)) (boxed_other HR.out.2.1 o (by omega)) (boxed_other HR.out.2.2 o (by omega)), by rw [HRR.out], HT.out.trans o (fun i hi h => by omega)⟩
  case stop =>
    intro D c pre W hD hSp ⟨hc, q, x, hpre, hlen, m1, m2, m3, hO⟩ hK
    subst hA
    subst hc
    gi_wp2
    have oT : Only Nob w W := oW.trans hO (fun i hi h => by omega)
    refine leaves_marks (B := w.heap.size + 5) _ W.heap.size W ⟨D, rfl, by omega, lt_of_heap hK, hK, trivial⟩ (Nat.le_refl _) (fun w' o => ?_)
    refine ⟨_, res32 _ _ w.heap.size (x.1.1, x.1.2, true) rfl rfl rfl (boxed_other m1 o (by omega)) (boxed_other m2 o (by omega)) (boxed_other m3 o (by omega)), ?_, oT.trans o (fun i hi h => by omega)⟩
    rw [find_last hSp hpre hlen]

end Go.Proofs.YtddjbfmohibgbaaDoor
