/- The finds counted. -/
import Derived.Test.YtddjbfmohibgbaaDoorFndI
namespace Go.Proofs.YtddjbfmohibgbaaDoor
open Go.RowKit Go.Shelf

attribute [local go_sem] Oper.semAt_some

/-- The world in which a pattern and a string lie in boxes. -/
def findsW (w : World) (v : Value) (s : List UInt8) : World := (w.alloc (.cells #[v] 23)).alloc (.cells #[.string ⟨s.toArray⟩] 9)

theorem finds_any (ao : Option Addr) (n cap : Nat) (s : List UInt8) (w : World) : Calls Tryd.prog 72 #[.slice ao n cap, .string ⟨s.toArray⟩] w fun e w' =>
    e = .returned (.func (.func 114) #[] #[.pointer (some ⟨w.heap.size, 0, none⟩), .pointer (some ⟨w.heap.size + 1, 0, none⟩)]) ∧ w' = findsW w (.slice ao n cap) s := by
  go_enter Tryd.func72, Tryd.ntmps72
  go_wp2
  go_ret
  exact ⟨rfl, rfl⟩

theorem findsW_at (w : World) (v : Value) (s : List UInt8) : (findsW w v s).heap.size = w.heap.size + 2 ∧ Only Nob w (findsW w v s) ∧ (findsW w v s).cell? ⟨w.heap.size, 0, none⟩ = some v ∧
    (findsW w v s).cell? ⟨w.heap.size + 1, 0, none⟩ = some (.string ⟨s.toArray⟩) := by
  unfold findsW
  refine ⟨by simp, (Only.alloc _ _ _).nob (Only.alloc _ _ _), ?_, ?_⟩
  · exact ((Boxed.new w 23 v).alloc (.cells #[.string ⟨s.toArray⟩] 9)).cell
  · generalize hA : w.alloc (.cells #[v] 23) = wA
    have hz : wA.heap.size = w.heap.size + 1 := by rw [← hA]; simp
    have h := Boxed.new wA 9 (.string ⟨s.toArray⟩)
    rw [← hz]
    exact h.cell

theorem finds_stops (v : Value) (p : List Pc) (s : List UInt8) (S : Nat → Prop) (wb w0 : World) (hp : Pcs wb v p) (fp : Fair p) (ht : Tab wb) (ob : Only Nob wb w0) (hs : s.length ≤ 1000)
    (hS : ∀ j, S j → wb.heap.size ≤ j ∧ (j < w0.heap.size ∨ w0.heap.size + 2 ≤ j)) :
    SeqStopsK Fence.wide 9 Tryd.prog 114 #[.pointer (some ⟨w0.heap.size, 0, none⟩), .pointer (some ⟨w0.heap.size + 1, 0, none⟩)] (fndV (n := s.length)) (Only S) (fun ys => ys.map (·.1) = findsL p s) (fun pre => pre.map (·.1) <+: findsL p s) 1003 (findsW w0 v s) := by
  intro l J Jx W hW hJ _ hY h0
  obtain ⟨hz, oz, cp, cs⟩ := findsW_at w0 v s
  have hK : ∀ (a : Addr), a.block < w0.heap.size + 2 → W.cell? a = (findsW w0 v s).cell? a := fun a h => hW.cell (p := a) (by omega)
  have o1 : Only Nob wb W := (ob.nob oz).nob (nob_of_below hW)
  refine finds1 l w0.heap.size (w0.heap.size + 1) v p s S J Jx W fp hs (fun h => by have := hS _ h; omega) (fun h => by have := hS _ h; omega)
    ((hK _ (by show w0.heap.size < _; omega)).trans cp) ((hK _ (by show w0.heap.size + 1 < _; omega)).trans cs) (fun w' o => ?_) (ht.other o1) hJ hY h0
  rcases hp with h | ⟨h0, b, off, cap, rfl, hb, hc⟩
  · exact .inl h
  · exact .inr ⟨h0, b, off, cap, rfl, Nat.lt_of_lt_of_le hb (Nat.le_trans o1.size o.size), fun i hi => ((hc i hi).other o1 (fun h => h)).other o (fun h => by have := hS _ h; omega)⟩

/-- Between two rounds of the counting loop. -/
def CntI {n : Nat} (g : Nat) (W0 : World) (pre : List (FndA n)) (W : World) : Prop :=
  W.heap[g]? = some (.cells #[.int .i64 (pre.length : Nat)] 3 (0, 0)) ∧ Only (fun i => i = g ∨ W0.heap.size ≤ i) W0 W

theorem cntI_own {n : Nat} (g : Nat) (W0 : World) (_h : g < W0.heap.size) : OwnFrom W0.heap.size (CntI (n := n) g W0) := fun s W W' r hs hg hr => by
  obtain ⟨h1, h2⟩ := hs
  exact ⟨((grown_only hg).block g (lt_of_heap h1) (not_row (fun q e => (hr q e).2) ⟨_, h1, rfl⟩)).trans h1, h2.trans (grown_only hg) (fun k _ hk => .inr (hr k hk).1)⟩

set_option maxRecDepth 100000 in
set_option maxHeartbeats 4000000 in
theorem count_finds (v : Value) (p : List Pc) (s : List UInt8) (w : World) (hp : Pcs w v p) (fp : Fair p) (ht : Tab w) (hs : s.length ≤ 1000) :
    Calls Tryd.prog 34 #[v, .string ⟨s.toArray⟩] w fun e w' => e = .returned (.int .i64 ((findsL p s).length : Nat)) ∧ Only Nob w w' := by
  obtain ⟨ao, cap, rfl⟩ := hp.form
  refine (callsIn_wide (n := 10)).1 ?_
  refine callsIn_of_wp_marks Tryd.func34 rfl trivial ?_ rfl
  simp only [Tryd.ntmps34, List.size_toArray, List.length_cons, List.length_nil, Nat.reduceAdd, Nat.reduceSub, Array.replicate_succ, Array.replicate_zero, List.push_toArray, List.append_toArray, List.nil_append, List.cons_append]
  refine wpIn_wide.2 ?_
  have HP := Lib.hid (And.intro hp ht)
  clear hp ht
  go_wp2_with fail
  refine (finds_any _ _ _ s _).mono ?_
  rintro e w' ⟨rfl, rfl⟩
  go_wp2_with fail
  have hc : (w.alloc (.cells #[.int .i64 0] 3)).heap[w.heap.size]? = some (.cells #[.int .i64 0] 3 (0, 0)) := heap_alloc_new _ _
  have oA : Only Nob w (w.alloc (.cells #[.int .i64 0] 3)) := Only.alloc _ _ _
  have hz1 : (w.alloc (.cells #[.int .i64 0] 3)).heap.size = w.heap.size + 1 := by simp
  generalize w.alloc (.cells #[.int .i64 0] 3) = wA at hc oA hz1 ⊢
  obtain ⟨hz4, o4, -⟩ := findsW_at wA (.slice ao p.length cap) s
  have hc4 := (o4.block _ (by omega) (fun h => h)).trans hc
  have hst4 := finds_stops _ p s (fun i => i = w.heap.size ∨ (findsW wA (.slice ao p.length cap) s).heap.size ≤ i) w wA HP.out.1 fp HP.out.2 oA hs (fun i hi => by omega)
  rw [hz1] at hst4 hz4
  have oW := oA.nob o4
  generalize findsW wA (.slice ao p.length cap) s = w4 at hz4 o4 hc4 hst4 oW ⊢
  refine wpIn_wide.1 (?_ : Code.wpIn Fence.wide 10 _ _ _ _ _)
  refine (?_ : ∀ A : Act, A = _ → Code.wpIn Fence.wide 10 _ _ _ A _) _ rfl
  intro A hA
  refine wpIn_rangeFunc_ownF rfl (by decide) (gf := 114) (lb := #[.pointer (some ⟨w.heap.size + 1, 0, none⟩), .pointer (some ⟨w.heap.size + 1 + 1, 0, none⟩)]) (by rw [hA]; rfl) trivial (enters_of Tryd.func114 (by kernel_rfl) rfl)
    hst4 (fun h k => h.trans k (fun _ _ h => h)) (fun W l o o' hl _ _ _ => only_putObj W l o' (.inr (by omega))) (Below.refl _ _) (fun _ => rfl)
    (CntI w.heap.size w4) (fun _ _ _ => False) (cntI_own _ _ (by omega)) (fun _ _ _ _ _ h _ _ => h) ⟨hc4, Only.refl _ _⟩
    (fun x => { tmps := A.tmps.setIfInBounds 9 (.agg #[.int .i64 (x.1.1 : Nat), .int .i64 (x.1.2 : Nat)]), defers := [] }) ?assign ?body ?done ?stop
  case assign =>
    intro l x W K hK
    subst hA
    simp only [List.setIfInBounds_toArray, List.set_cons_zero, List.set_cons_succ] at hK
    dsimp only [fndV]
    gi_wp2
    exact hK
  case body =>
    rintro l pre x W ⟨hr, hO⟩ hlen
    subst hA
    simp only [List.setIfInBounds_toArray, List.set_cons_zero, List.set_cons_succ]
    have hce : W.cell? ⟨w.heap.size, 0, none⟩ = some (.int .i64 (pre.length : Nat)) := by simp [World.cell?, hr]
    have hfe : W.frozen? ⟨w.heap.size, 0, none⟩ = false := by simp [World.frozen?, hr]
    have hw1 : IntKind.i64.wrap ((pre.length : Nat) + 1 : Int) = ((pre.length + 1 : Nat) : Int) := by rw [IntWalk.i64_in _ (by omega)]; omega
    have HR := Lib.hid hr
    have HO2 := Lib.hid hO
    clear hr hO
    gi_wp2
    have oS : Only (Is w.heap.size) W (W.setCell ⟨w.heap.size, 0, none⟩ (.int .i64 ((pre.length + 1 : Nat) : Int))) := Only.setCell _ _ _ rfl
    refine ⟨keeps_only oS (fun i hi _ => by obtain rfl : i = w.heap.size := hi; exact ⟨_, HR.out, rfl⟩), oS.mono (fun i _ hi => .inl hi), ?_, HO2.out.trans oS (fun i _ hi => .inl hi)⟩
    rw [List.length_append]
    exact heap_setCell_same W w.heap.size 0 _ 3 _ HR.out
  case done =>
    intro D ys W hD hS ⟨hr, hO⟩ hK
    subst hA
    have hce : W.cell? ⟨w.heap.size, 0, none⟩ = some (.int .i64 (ys.length : Nat)) := by simp [World.cell?, hr]
    have hyl : ys.length = (findsL p s).length := by rw [← hS, List.length_map]
    rw [hyl] at hce
    have hD2 : w.heap.size ≤ D := by omega
    have oT : Only Nob w W := oW.trans hO (fun i hi h => by omega)
    have HM := Lib.hid (show Marks W w.heap.size W.heap.size [{ target := .collected D, args := #[] }] from ⟨D, rfl, hD2, lt_of_heap hK, hK, trivial⟩)
    have HT := Lib.hid oT
    clear hr hO hS hyl hK oT
    go_wp2_with fail
    refine leaves_marks _ W.heap.size W HM.out (Nat.le_refl _) (fun w' o => ?_)
    exact ⟨_, results_tmp rfl _ _ _, rfl, HT.out.trans o (fun i hi h => absurd hi (Nat.not_lt.2 h.1))⟩
  case stop =>
    intro D c pre W _ _ h _
    exact h.elim

end Go.Proofs.YtddjbfmohibgbaaDoor
