/- What a pattern reaches: the program's function. -/
import Derived.Test.YtddjbfmohibgbaaDoorRow
namespace Go.Proofs.YtddjbfmohibgbaaDoor
open Go.RowKit Go.Shelf

attribute [local go_sem] Oper.semAt_some

/-- The world in which a piece, a string and an offset lie in boxes. -/
def endsW (w : World) (x : Pc) (s : List UInt8) (k : Nat) : World :=
  ((w.alloc (.cells #[.int .i64 x.c, .int .i64 x.l, .int .i64 x.m, .string ⟨x.t.toArray⟩] 31)).alloc (.cells #[.string ⟨s.toArray⟩] 9)).alloc (.cells #[.int .i64 k] 3)

theorem ends_any (x : Pc) (s : List UInt8) (k : Nat) (w : World) : Calls Tryd.prog 110 #[pcV x, .string ⟨s.toArray⟩, .int .i64 k] w fun e w' =>
    e = .returned (.func (.func 130) #[] #[.pointer (some ⟨w.heap.size, 0, none⟩), .pointer (some ⟨w.heap.size + 1, 0, none⟩), .pointer (some ⟨w.heap.size + 1 + 1, 0, none⟩)]) ∧ w' = endsW w x s k := by
  unfold pcV SV
  go_enter Tryd.func110, Tryd.ntmps110
  go_wp2
  go_ret
  exact ⟨rfl, rfl⟩

theorem endsW_at (w : World) (x : Pc) (s : List UInt8) (k : Nat) : (endsW w x s k).heap.size = w.heap.size + 3 ∧ Only Nob w (endsW w x s k) ∧ PcAt (endsW w x s k) w.heap.size 0 x ∧
    (endsW w x s k).cell? ⟨w.heap.size + 1, 0, none⟩ = some (.string ⟨s.toArray⟩) ∧ (endsW w x s k).cell? ⟨w.heap.size + 1 + 1, 0, none⟩ = some (.int .i64 k) := by
  unfold endsW
  refine ⟨by simp, ((Only.alloc _ _ _).nob (Only.alloc _ _ _)).nob (Only.alloc _ _ _), ?_, ?_, ?_⟩
  · have h : PcAt (w.alloc (.cells #[.int .i64 x.c, .int .i64 x.l, .int .i64 x.m, .string ⟨x.t.toArray⟩] 31)) w.heap.size 0 x := by unfold PcAt; simp
    exact h.other ((Only.alloc Nob _ _).nob (Only.alloc Nob _ _)) (fun h => h)
  · generalize hA : w.alloc (.cells #[.int .i64 x.c, .int .i64 x.l, .int .i64 x.m, .string ⟨x.t.toArray⟩] 31) = wA
    have hz : wA.heap.size = w.heap.size + 1 := by rw [← hA]; simp
    have h := Boxed.new wA 9 (.string ⟨s.toArray⟩)
    rw [← hz]
    exact (h.alloc (.cells #[.int .i64 k] 3)).cell
  · generalize hA : (w.alloc (.cells #[.int .i64 x.c, .int .i64 x.l, .int .i64 x.m, .string ⟨x.t.toArray⟩] 31)).alloc (.cells #[.string ⟨s.toArray⟩] 9) = wA
    have hz : wA.heap.size = w.heap.size + 1 + 1 := by rw [← hA]; simp
    have h := Boxed.new wA 3 (.int .i64 k)
    rw [← hz]
    exact h.cell

theorem ends_stops (x : Pc) (s : List UInt8) (k : Nat) (S : Nat → Prop) (w0 : World) (hx : PcOk x) (hs : s.length ≤ 1000) (hk : k ≤ s.length) (hS : ∀ j, S j → j < w0.heap.size ∨ w0.heap.size + 3 ≤ j) :
    SeqStopsK Fence.wide 9 Tryd.prog 130 #[.pointer (some ⟨w0.heap.size, 0, none⟩), .pointer (some ⟨w0.heap.size + 1, 0, none⟩), .pointer (some ⟨w0.heap.size + 1 + 1, 0, none⟩)] (endV (n := s.length)) (Only S) (fun ys => ys.map (·.1) = endsL x s k) (fun pre => pre.map (·.1) <+: endsL x s k) 1003 (endsW w0 x s k) := by
  intro l J Jx W hW hJ _ hY h0
  obtain ⟨hz, _, cx, cs, cf⟩ := endsW_at w0 x s k
  have hK : ∀ (a : Addr), a.block < w0.heap.size + 3 → W.cell? a = (endsW w0 x s k).cell? a := fun a h => hW.cell (p := a) (by omega)
  refine ends1 l w0.heap.size (w0.heap.size + 1) (w0.heap.size + 1 + 1) k x s S J Jx W hx hs hk (fun h => by have := hS _ h; omega) (fun h => by have := hS _ h; omega) (fun h => by have := hS _ h; omega)
    ?_ ((hK _ (by show w0.heap.size + 1 < _; omega)).trans cs) ((hK _ (by show w0.heap.size + 1 + 1 < _; omega)).trans cf) hJ hY h0
  obtain ⟨c0, c1, c2, c3⟩ := cx
  have hb : w0.heap.size < w0.heap.size + 3 := by omega
  exact ⟨(hK _ hb).trans c0, (hK _ hb).trans c1, (hK _ hb).trans c2, (hK _ hb).trans c3⟩

/-- The loop over the pieces. -/
def RchO (w : World) (p : List Pc) (s : List UInt8) (f : Nat) (ao : Option Addr) (cap : Nat) (a : Act) (wr : World) : Prop :=
  ∃ (j g : Nat) (ds : List Deferred) (u9 u10 u11 u12 u13 u24 u25 u26 u27 u28 u29 u30 u31 u32 u33 u34 u35 u36 u37 u38 u39 u40 u41 u42 u43 u44 u45 u46 u47 u48 u49 u50 : Value), a = { tmps := #[.slice ao p.length cap, .string ⟨s.toArray⟩, .int .i64 f, undef, undef, undef, .slice none 0 0, .slice (some ⟨g, 0, none⟩) (s.length + 1) (s.length + 1), undef, u9, u10, u11, u12, u13, .string ⟨s.toArray⟩, .int .i64 s.length, .int .i64 ((s.length : Int) + 1), .slice (some ⟨w.heap.size, 0, none⟩) (s.length + 1) (s.length + 1), .slice (some ⟨w.heap.size, 0, none⟩) (s.length + 1) (s.length + 1), .int .i64 f, .pointer (some ⟨w.heap.size, f, none⟩), .slice ao p.length cap, .int .i64 p.length, .int .i64 (j : Nat), u24, u25, u26, u27, u28, u29, u30, u31, u32, u33, u34, u35, u36, u37, u38, u39, u40, u41, u42, u43, u44, u45, u46, u47, u48, u49, u50, undef], defers := ds } ∧ j ≤ p.length ∧ BRow wr g (reachL (p.take j) s f) ∧ Only Nob w wr ∧ Marks wr w.heap.size wr.heap.size ds ∧ w.heap.size ≤ g

/-- The loop over the offsets. -/
def RchN (w : World) (p : List Pc) (s : List UInt8) (f : Nat) (ao : Option Addr) (cap : Nat) (x : Pc) (now : List Bool) (j g g2 Bn Bx : Nat) (u24 u25 u26 u27 u28 u29 u30 u49 u50 : Value) (a : Act) (wr : World) : Prop :=
  ∃ (k : Nat) (ds : List Deferred) (u11 u12 u13 u34 u35 u36 u37 u38 u39 u40 u41 u42 u43 u44 u45 u46 u47 u48 : Value), a = { tmps := #[.slice ao p.length cap, .string ⟨s.toArray⟩, .int .i64 f, undef, undef, undef, .slice none 0 0, .slice (some ⟨g, 0, none⟩) (s.length + 1) (s.length + 1), undef, .pointer (some ⟨Bx, 0, none⟩), .pointer (some ⟨Bn, 0, none⟩), u11, u12, u13, .string ⟨s.toArray⟩, .int .i64 s.length, .int .i64 ((s.length : Int) + 1), .slice (some ⟨w.heap.size, 0, none⟩) (s.length + 1) (s.length + 1), .slice (some ⟨w.heap.size, 0, none⟩) (s.length + 1) (s.length + 1), .int .i64 f, .pointer (some ⟨w.heap.size, f, none⟩), .slice ao p.length cap, .int .i64 p.length, .int .i64 (j : Nat), u24, u25, u26, u27, u28, u29, u30, .slice (some ⟨g, 0, none⟩) (s.length + 1) (s.length + 1), .int .i64 ((s.length : Int) + 1), .int .i64 (k : Nat), u34, u35, u36, u37, u38, u39, u40, u41, u42, u43, u44, u45, u46, u47, u48, u49, u50, undef], defers := ds } ∧ k ≤ s.length + 1 ∧ BRow wr g now ∧ BRow wr g2 (stepF x s now k) ∧ Boxed wr Bn 91 (.slice (some ⟨g2, 0, none⟩) (s.length + 1) (s.length + 1)) ∧ PcAt wr Bx 0 x ∧ Only Nob w wr ∧ Marks wr w.heap.size wr.heap.size ds ∧ (w.heap.size ≤ g2 ∧ g ≠ g2 ∧ Bn ≠ g2 ∧ Bx ≠ g2)

/-- The world in which a round over a piece begins. -/
def rchW (w : World) (x : Pc) (n : Nat) : World :=
  ((w.alloc (.cells #[.int .i64 x.c, .int .i64 x.l, .int .i64 x.m, .string ⟨x.t.toArray⟩] 31)).alloc (.cells (Array.replicate n (Value.bool false)) 4)).alloc (.cells #[.slice (some ⟨w.heap.size + 1, 0, none⟩) n n] 91)

theorem rchW_at (w : World) (x : Pc) (n : Nat) : (rchW w x n).heap.size = w.heap.size + 3 ∧ Only Nob w (rchW w x n) ∧ PcAt (rchW w x n) w.heap.size 0 x ∧ BRow (rchW w x n) (w.heap.size + 1) (List.replicate n false) ∧ Boxed (rchW w x n) (w.heap.size + 1 + 1) 91 (.slice (some ⟨w.heap.size + 1, 0, none⟩) n n) := by
  unfold rchW
  refine ⟨by simp, ((Only.alloc _ _ _).nob (Only.alloc _ _ _)).nob (Only.alloc _ _ _), ?_, ?_, ?_⟩
  · have h : PcAt (w.alloc (.cells #[.int .i64 x.c, .int .i64 x.l, .int .i64 x.m, .string ⟨x.t.toArray⟩] 31)) w.heap.size 0 x := by unfold PcAt; simp
    exact h.other ((Only.alloc Nob _ _).nob (Only.alloc Nob _ _)) (fun h => h)
  · generalize hA : w.alloc (.cells #[.int .i64 x.c, .int .i64 x.l, .int .i64 x.m, .string ⟨x.t.toArray⟩] 31) = wA
    have hz : wA.heap.size = w.heap.size + 1 := by rw [← hA]; simp
    have h := BRow.new wA n
    rw [← hz]
    exact h.other (Only.alloc Nob _ _) (fun h => h)
  · generalize hA : (w.alloc (.cells #[.int .i64 x.c, .int .i64 x.l, .int .i64 x.m, .string ⟨x.t.toArray⟩] 31)).alloc (.cells (Array.replicate n (Value.bool false)) 4) = wA
    have hz : wA.heap.size = w.heap.size + 1 + 1 := by rw [← hA]; simp
    have h := Boxed.new wA 91 (.slice (some ⟨w.heap.size + 1, 0, none⟩) n n)
    rw [← hz]
    exact h

/-- Between two rounds of the loop over the iterator. -/
def RchI {n : Nat} (g2 : Nat) (W0 : World) (row : List Bool) (pre : List (EndA n)) (W : World) : Prop :=
  BRow W g2 (marks (pre.map (·.1)) row) ∧ Only (fun i => i = g2 ∨ W0.heap.size ≤ i) W0 W

theorem rchI_own {n : Nat} (g2 : Nat) (W0 : World) (row : List Bool) (_h : g2 < W0.heap.size) : OwnFrom W0.heap.size (RchI (n := n) g2 W0 row) := fun s W W' r hs hg hr => by
  obtain ⟨h1, h2⟩ := hs
  exact ⟨h1.other (grown_only hg) (not_row (fun q e => (hr q e).2) ⟨_, h1, rfl⟩), h2.trans (grown_only hg) (fun k _ hk => .inr (hr k hk).1)⟩

set_option maxRecDepth 100000 in
set_option maxHeartbeats 4000000 in
theorem reach_any (v : Value) (p : List Pc) (s : List UInt8) (f : Nat) (w : World) (hp : Pcs w v p) (hg : Fair p) (hs : s.length ≤ 1000) (hf : f ≤ s.length) :
    Calls Tryd.prog 64 #[v, .string ⟨s.toArray⟩, .int .i64 f] w fun e w' => ∃ g, e = .returned (.slice (some ⟨g, 0, none⟩) (s.length + 1) (s.length + 1)) ∧ BRow w' g (reachL p s f) ∧ Only Nob w w' := by
  obtain ⟨ao, cap, rfl⟩ := hp.form
  have hlen := hg.1
  refine (callsIn_wide (n := 10)).1 ?_
  refine callsIn_of_wp_marks Tryd.func64 rfl trivial ?_ rfl
  simp only [Tryd.ntmps64, List.size_toArray, List.length_cons, List.length_nil, Nat.reduceAdd, Nat.reduceSub, Array.replicate_succ, Array.replicate_zero, List.push_toArray, List.append_toArray, List.nil_append, List.cons_append]
  refine wpIn_wide.2 ?_
  have mk0 := fun w => run_bools w (s.length + 1) (by omega)
  simp only [show ((s.length + 1 : Nat) : Int) = (s.length : Int) + 1 by omega] at mk0
  have mk := mk0 w
  have MK := Lib.hid mk0
  have hw1 : IntKind.i64.wrap ((s.length : Int) + 1) = (s.length : Int) + 1 := IntWalk.i64_in _ (by omega)
  have hb0 := BRow.new w (s.length + 1)
  have oA : Only Nob w (w.alloc (.cells (Array.replicate (s.length + 1) (Value.bool false)) 4)) := Only.alloc _ _ _
  generalize w.alloc (.cells (Array.replicate (s.length + 1) (Value.bool false)) 4) = wA at mk hb0 oA
  have hfr := hb0.free f
  have hce := hb0.cell (i := f) (by simp; omega)
  have hf2 : (f : Int) < (s.length : Int) + 1 := by omega
  have hf3 : f < s.length + 1 := by omega
  have hb1 := hb0.set f true
  have oB : Only Nob w (wA.setCell ⟨w.heap.size, f, none⟩ (.bool true)) := oA.trans (Only.setCell (S := fun k => w.heap.size ≤ k) wA ⟨w.heap.size, f, none⟩ _ (Nat.le_refl _)) (fun i hi h => absurd hi (Nat.not_lt.2 h))
  have HB := Lib.hid (And.intro hb1 oB)
  clear mk0 hb0 oA hb1 oB
  go_wp2_with fail
  refine wp_loop (RchO w p s f ao cap) (fun a _ => p.length - (intOf (a.tmps.getD 23 undef)).toNat) ?start ?round
  case start => exact ⟨0, w.heap.size, [], undef, undef, undef, undef, undef, undef, undef, undef, undef, undef, undef, undef, undef, undef, undef, undef, undef, undef, undef, undef, undef, undef, undef, undef, undef, undef, undef, undef, undef, undef, undef, undef, rfl, Nat.zero_le _, HB.out.1, HB.out.2, trivial, Nat.le_refl _⟩
  case round =>
    rintro a wr ⟨j, g, ds, u9, u10, u11, u12, u13, u24, u25, u26, u27, u28, u29, u30, u31, u32, u33, u34, u35, u36, u37, u38, u39, u40, u41, u42, u43, u44, u45, u46, u47, u48, u49, u50, rfl, hj, hrow, hon, hmk, hgw⟩
    clear HB hfr hce mk
    by_cases hlt : j < p.length
    · have hxo := hg.2 _ (List.getElem_mem hlt)
      obtain ⟨b, off, rfl, hb, e0, e1, e2, e3⟩ := (hp.nob hon).at hlt
      have hst := Lib.hid (show reachL (p.take (j + 1)) s f = stepL p[j] s (reachL (p.take j) s f) by rw [List.take_succ_eq_append_getElem hlt, reachL_snoc])
      have hnl := length_reachL (p.take j) s f
      generalize reachL (p.take j) s f = now at hrow hst hnl
      generalize p[j] = x at hxo hst e0 e1 e2 e3
      obtain ⟨c, l', m, t⟩ := x
      simp only at e0 e1 e2 e3
      have kk : (j : Int) < (p.length : Int) := by omega
      have mk := MK.out (wr.alloc (.cells #[.int .i64 c, .int .i64 l', .int .i64 m, .string ⟨t.toArray⟩] 31))
      have HO := Lib.hid hon
      go_wp2_with fail
      have hW : ((wr.alloc (.cells #[.int .i64 c, .int .i64 l', .int .i64 m, .string ⟨t.toArray⟩] 31)).alloc (.cells (Array.replicate (s.length + 1) (Value.bool false)) 4)).alloc (.cells #[.slice (some ⟨wr.heap.size + 1, 0, none⟩) (s.length + 1) (s.length + 1)] 91) = rchW wr ⟨c, l', m, t⟩ (s.length + 1) := rfl
      obtain ⟨hz, oW, pW, bW, xW⟩ := rchW_at wr ⟨c, l', m, t⟩ (s.length + 1)
      rw [hW]
      clear hW mk
      generalize rchW wr ⟨c, l', m, t⟩ (s.length + 1) = w2 at hz oW pW bW xW ⊢
      have hgl := hrow.lt
      have hwl := hon.size
      have hrow2 := hrow.other oW (fun h => h)
      have hmk2 := (Marks.other oW hmk (fun _ h => h.elim) (Nat.le_refl _)).up oW.size
      have hon2 := hon.nob oW
      refine wp_loop (RchN w p s f (some ⟨b, off, none⟩) cap ⟨c, l', m, t⟩ now j g (wr.heap.size + 1) (wr.heap.size + 1 + 1) wr.heap.size (.bool true) (.pointer (some ⟨b, off + j * 4, none⟩)) (.agg #[.int .i64 c, .int .i64 l', .int .i64 m, .string ⟨t.toArray⟩]) (.string ⟨s.toArray⟩) (.int .i64 s.length) (.int .i64 ((s.length : Int) + 1)) (.slice (some ⟨wr.heap.size + 1, 0, none⟩) (s.length + 1) (s.length + 1)) u49 u50) (fun a _ => s.length + 1 - (intOf (a.tmps.getD 33 undef)).toNat) ?start2 ?round2
      case start2 => exact ⟨0, ds, _, _, _, _, _, _, _, _, _, _, _, _, _, _, _, _, _, _, rfl, Nat.zero_le _, hrow2, bW, xW, pW, hon2, hmk2, by omega, by omega, by omega, by omega⟩
      case round2 =>
        clear hmk hrow hrow2 hmk2 hon2 bW pW xW oW hon e0 e1 e2 e3
        rintro a w3 ⟨k, ds, u11, u12, u13, u34, u35, u36, u37, u38, u39, u40, u41, u42, u43, u44, u45, u46, u47, u48, rfl, hk, hrow, hnx, hbx, hpx, hon, hmk, hg2⟩
        by_cases hkn : k < s.length + 1
        · have hkk : (k : Int) < (s.length : Int) + 1 := by omega
          have hcell := hrow.cell (i := k) (by omega)
          have hgd : now.getD k false = now[k] := getD_lt _ (by omega)
          have hsk := stepF_succ ⟨c, l', m, t⟩ s now k
          rw [hgd] at hsk
          have HSK := Lib.hid hsk
          clear hsk hgd
          cases hbk : now[k]
          · rw [hbk] at hcell HSK
            clear hbk
            go_wp2_with fail
            refine ⟨⟨k + 1, ds, _, _, _, _, _, _, _, _, _, _, _, _, _, _, _, _, _, _, by first | rfl | simp, by omega, hrow, by rw [HSK.out]; exact hnx, hbx, hpx, hon, hmk, hg2⟩, by simp [intOf]; omega⟩
          · rw [hbk] at hcell HSK
            clear hbk
            obtain ⟨x0, x1, x2, x3⟩ := hpx
            have HPX := Lib.hid (show PcAt w3 wr.heap.size 0 ⟨c, l', m, t⟩ from ⟨x0, x1, x2, x3⟩)
            simp only [Nat.zero_add] at x1 x2 x3
            go_wp2_with fail
            refine (ends_any ⟨c, l', m, t⟩ s k _).mono ?_
            rintro e w' ⟨rfl, rfl⟩
            go_wp2_with fail
            obtain ⟨hz4, o4, -⟩ := endsW_at w3 ⟨c, l', m, t⟩ s k
            have hon4 := hon.nob o4
            have hrow4 := hrow.other o4 (fun h => h)
            have hnx4 := hnx.other o4 (fun h => h)
            have hbx4 : Boxed _ _ _ _ := (o4.block _ hbx.lt (fun h => h)).trans hbx
            have hpx4 := HPX.out.other o4 (fun h => h)
            have hmk4 := (Marks.other o4 hmk (fun _ h => h.elim) (Nat.le_refl _)).up o4.size
            have hst4 := ends_stops ⟨c, l', m, t⟩ s k (fun i => i = wr.heap.size + 1 ∨ (endsW w3 ⟨c, l', m, t⟩ s k).heap.size ≤ i) w3 hxo hs (by omega) (fun i hi => by
              rcases hi with h | h
              · have := hnx.lt; omega
              · omega)
            have hng := hnx.lt
            generalize endsW w3 ⟨c, l', m, t⟩ s k = w4 at hz4 o4 hon4 hrow4 hnx4 hbx4 hpx4 hmk4 hst4 ⊢
            clear x0 x1 x2 x3 HPX hcell
            refine wpIn_wide.1 (?_ : Code.wpIn Fence.wide 10 _ _ _ _ _)
            refine (?_ : ∀ A : Act, A = _ → Code.wpIn Fence.wide 10 _ _ _ A _) _ rfl
            intro A hA
            refine wpIn_rangeFunc_ownF rfl (by decide) (gf := 130) (lb := #[.pointer (some ⟨w3.heap.size, 0, none⟩), .pointer (some ⟨w3.heap.size + 1, 0, none⟩), .pointer (some ⟨w3.heap.size + 1 + 1, 0, none⟩)]) (by rw [hA]; rfl) trivial (enters_of Tryd.func130 (by kernel_rfl) rfl)
              hst4 (fun h k => h.trans k (fun _ _ h => h)) (fun W l o o' hl _ _ _ => only_putObj W l o' (.inr (by omega))) (Below.refl _ _) (fun _ => rfl)
              (RchI (wr.heap.size + 1) w4 (stepF ⟨c, l', m, t⟩ s now k)) (fun _ _ _ => False) (rchI_own _ _ _ (by omega)) (fun _ _ _ _ _ h _ _ => h) ⟨hnx4, Only.refl _ _⟩
              (fun x => { tmps := (A.tmps.setIfInBounds 44 (.int .i64 (x.1 : Nat))).setIfInBounds 13 (.int .i64 (x.1 : Nat)), defers := [] }) ?assign ?body ?done ?stop
            case assign =>
              intro l x W K hK
              subst hA
              simp only [List.setIfInBounds_toArray, List.set_cons_zero, List.set_cons_succ] at hK
              dsimp only [endV]
              gi_wp2
              exact hK
            case body =>
              rintro l pre ⟨e, he⟩ W ⟨hr, hO⟩ hlen
              subst hA
              simp only [List.setIfInBounds_toArray, List.set_cons_zero, List.set_cons_succ]
              have hbW : W.cell? ⟨wr.heap.size + 1 + 1, 0, none⟩ = some (.slice (some ⟨wr.heap.size + 1, 0, none⟩) (s.length + 1) (s.length + 1)) := (hO.cell (a := ⟨wr.heap.size + 1 + 1, 0, none⟩) hbx4.lt (fun h => by
                have := hbx4.lt
                rcases h with h | h
                · have h : wr.heap.size + 1 + 1 = wr.heap.size + 1 := h
                  omega
                · have h : w4.heap.size ≤ wr.heap.size + 1 + 1 := h
                  omega)).trans hbx4.cell
              have hl : (marks (pre.map (·.1)) (stepF ⟨c, l', m, t⟩ s now k)).length = s.length + 1 := by rw [length_marks, length_stepF]
              have hce := hr.cell (i := e) (by omega)
              have hfe := hr.free e
              have he1 : (e : Int) < (s.length : Int) + 1 := by omega
              have he2 : e < s.length + 1 := by omega
              have HR := Lib.hid (hr.set e true)
              have HO2 := Lib.hid hO
              have HC := Lib.hid (show ∃ o : Obj, W.heap[wr.heap.size + 1]? = some o ∧ o.isCells = true from ⟨_, hr, rfl⟩)
              generalize (marks (pre.map (·.1)) (stepF ⟨c, l', m, t⟩ s now k))[e]'(by omega) = ob at hce
              clear hr hO hl
              gi_wp2
              have oS : Only (Is (wr.heap.size + 1)) W (W.setCell ⟨wr.heap.size + 1, e, none⟩ (.bool true)) := Only.setCell _ _ _ rfl
              refine ⟨keeps_only oS (fun i hi _ => by obtain rfl : i = wr.heap.size + 1 := hi; exact HC.out), oS.mono (fun i _ hi => .inl hi), ?_, HO2.out.trans oS (fun i _ hi => .inl hi)⟩
              rw [List.map_append, List.map_cons, List.map_nil, marks_snoc]
              exact HR.out
            case done =>
              intro D ys W hD hS ⟨hr, hO⟩ hK
              subst hA
              have hS' : ys.map (·.1) = endsL ⟨c, l', m, t⟩ s k := hS
              rw [hS'] at hr
              have hg4 : ¬ (g = wr.heap.size + 1 ∨ w4.heap.size ≤ g) := fun h => by have := hrow4.lt; omega
              have hB4 : ¬ (wr.heap.size + 1 + 1 = wr.heap.size + 1 ∨ w4.heap.size ≤ wr.heap.size + 1 + 1) := fun h => by have := hbx4.lt; omega
              have hX4 : ¬ (wr.heap.size = wr.heap.size + 1 ∨ w4.heap.size ≤ wr.heap.size) := fun h => by have := hpx4.lt; omega
              have hRow := hrow4.other hO hg4
              have hBox : Boxed W (wr.heap.size + 1 + 1) 91 _ := (hO.block _ hbx4.lt hB4).trans hbx4
              have hPx := hpx4.other hO hX4
              have hMk := Marks.other hO hmk4 (fun i hi hl o ho => by
                rcases hi with h | h
                · subst h
                  rw [hnx4] at ho
                  obtain rfl := Option.some.inj ho
                  rfl
                · omega) (Nat.le_refl _)
              have hOn : Only Nob w W := hon4.trans hO (fun i hi h => by
                rcases h with h | h
                · omega
                · have := hon4.size; omega)
              have hz5 := hon4.size
              have HSR := Lib.hid HSK.out
              rw [if_pos trivial] at HSR
              have hr2 := Lib.hid hr
              clear hr hS hS' hnx hbx hpx4 hrow hmk
              go_wp2_with fail
              refine ⟨⟨k + 1, { target := .collected D, args := #[] } :: ds, _, _, _, _, _, _, _, _, _, _, _, _, _, _, _, _, _, _, by first | rfl | simp, by omega, hRow, by rw [HSR.out]; exact hr2.out, hBox, hPx, hOn, ⟨D, rfl, by omega, lt_of_heap hK, hK, hMk.up hD⟩, hg2⟩, by simp [intOf]; omega⟩
            case stop =>
              intro D c pre W _ _ h _
              exact h.elim
        · obtain rfl : k = s.length + 1 := by omega
          have hcb := hbx.cell
          have HF := Lib.hid (show BRow w3 (wr.heap.size + 1) (reachL (p.take (j + 1)) s f) by rw [hst.out]; exact hnx)
          clear hnx hrow hpx
          go_wp2_with fail
          refine ⟨⟨j + 1, wr.heap.size + 1, ds, _, _, _, _, _, _, _, _, _, _, _, _, _, _, _, _, _, _, _, _, _, _, _, _, _, _, _, _, _, _, _, _, by first | rfl | simp, by omega, HF.out, hon, hmk, by omega⟩, by simp [intOf]; omega⟩
    · obtain rfl : j = p.length := by omega
      rw [List.take_of_length_le (Nat.le_refl _)] at hrow
      have HO := Lib.hid hon
      clear hon
      go_wp2_with fail
      refine leaves_marks ds wr.heap.size wr hmk (Nat.le_refl _) (fun w' o => ?_)
      refine ⟨_, results_tmp rfl _ _ _, g, rfl, hrow.other o (fun h => ?_), HO.out.trans o (fun i hi h => absurd hi (Nat.not_lt.2 h.1))⟩
      have := h.2.2 _ hrow
      cases this

end Go.Proofs.YtddjbfmohibgbaaDoor
