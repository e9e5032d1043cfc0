/- The walk of the reference's Opens where the last record was perhaps there. -/
import Derived.Test.YtdpebdghhgojaaaJOpensR
namespace Go.Proofs.Ytdpebdghhgojaaa
open Go.RowKit

/-- The cells that the statement reads. -/
def LastIn (rb g n : Nat) (vL vM : Value) (m : List UInt8) (w : World) : Prop := w.cell? ⟨rb, 0, none⟩ = some vL ∧ w.cell? ⟨rb, 1, none⟩ = some vM ∧ w.cell? ⟨g, n, none⟩ = some (.string ⟨m.toArray⟩)
theorem LastIn.other {rb g n : Nat} {vL vM : Value} {m : List UInt8} {w w' : World} (h : LastIn rb g n vL vM m w) (o : Only Nob w w') : LastIn rb g n vL vM m w' := by
  obtain ⟨h0, h1, h2⟩ := h
  exact ⟨(o.cell (World.block_lt_of_cell? w _ h0) (fun h => h)).trans h0, (o.cell (World.block_lt_of_cell? w _ h1) (fun h => h)).trans h1, (o.cell (World.block_lt_of_cell? w _ h2) (fun h => h)).trans h2⟩

/-- The two appends: the row L was laid into the empty row of block g; then m out of block e is appended. -/
theorem two_appends (w W : World) (vL : Value) (L : List (List UInt8)) (hL : Srow W vL L) (o : Only Nob w W) (g : Nat) (hg : Srow W (.slice (some ⟨g, 0, none⟩) 0 0) []) (hgw : w.heap.size ≤ g) (hlen : L.length ≤ 100000000) :
    ∃ ao cap w3, (Builtin.append_ #[64, 64] 64 #[.slice (some ⟨g, 0, none⟩) 0 0, vL]).run Try.prog W = .ok (.slice ao L.length cap) w3 ∧ Srow w3 (.slice ao L.length cap) L ∧ Only Nob w w3 ∧ (∀ k, Blk (.slice ao L.length cap) k → w.heap.size ≤ k) ∧ (∀ e r, e ≠ g → W.cell? ⟨e, 0, none⟩ = some (SV r) → w3.cell? ⟨e, 0, none⟩ = some (SV r)) := by
  obtain ⟨v', w3, hrun, hrow, oA, hfr⟩ := run_append_srow W (.slice (some ⟨g, 0, none⟩) 0 0) vL [] L hg hL (by simp; omega)
  rw [List.nil_append] at hrow
  obtain ⟨ao, cap, rfl, _⟩ := own_form hrow
  have hb : ∀ k, Blk (.slice (some ⟨g, 0, none⟩) 0 0) k → k = g := fun k hk => by
    have : g = k := by simpa [Blk, Value.ownBlock] using hk
    omega
  have z := o.size
  refine ⟨ao, cap, w3, hrun, hrow, o.trans oA (fun i hi hx => by have := hb i hx; omega), fun k hk => ?_, fun e r hne he => ?_⟩
  · rcases hfr k hk with h | h
    · have := hb k h; omega
    · omega
  · exact (oA.cell (a := ⟨e, 0, none⟩) (World.block_lt_of_cell? W _ he) (fun hx => hne (hb e hx))).trans he

theorem third_append (w W : World) (v : Value) (L : List (List UInt8)) (m : List UInt8) (hL : Srow W v L) (o : Only Nob w W) (hv : ∀ k, Blk v k → w.heap.size ≤ k) (e : Nat) (he : W.cell? ⟨e, 0, none⟩ = some (SV m)) (hlen : L.length ≤ 100000000) :
    ∃ g' cap w4, (Builtin.append_ #[64, 64] 64 #[v, .slice (some ⟨e, 0, none⟩) 1 1]).run Try.prog W = .ok (.slice (some ⟨g', 0, none⟩) (L.length + 1) cap) w4 ∧ Srow w4 (.slice (some ⟨g', 0, none⟩) (L.length + 1) cap) (L ++ [m]) ∧ Only Nob w w4 := by
  obtain ⟨g', cap, w4, h1, h2, h3, h4⟩ := run_append_str W 64 v L hL (by omega) e m he
  exact ⟨g', cap, w4, h1, h2, o.trans h3 (fun i hi hx => by have := hv i hx; omega)⟩

set_option maxRecDepth 100000 in
set_option maxHeartbeats 4000000 in
theorem opens_last (fp : Nat → Prop) (rb : Nat) (rs : RS) (vl : Value) (M l : List (List UInt8)) (m : List UInt8) (w : World) (h : RJ w fp rb rs) (hbr : rs.broken = true) (hM : rs.maybe = M ++ [m]) (hll : rs.L ++ [m] = l) (hl : Srow w vl l) (hn : ∀ k, Blk vl k → ¬ fp k) (hlen : l.length ≤ 100000000) (hMl : rs.maybe.length ≤ 100000000) (hsum : sumB l ≤ 1000000000000000) :
    Calls Try.prog 46 #[.pointer (some ⟨rb, 0, none⟩), vl] w (RJPost fp rb ⟨l, [], false, sumB l⟩ (.bool true) w) := by
  have hJ := h
  obtain ⟨vL, vM, hi⟩ := h
  obtain ⟨c0, c1, c2, c3, f⟩ := hi.cells
  rw [hbr] at c2
  have hLl : rs.L.length + 1 = l.length := by rw [← hll]; simp
  obtain ⟨al, cl, rfl, _⟩ := own_form hl
  have hS := Lib.hid (same_len _ vL l rs.L w hl.strs hi.rL.strs (by omega))
  obtain ⟨mm, hmm⟩ : ∃ mm, mm = M.length := ⟨_, rfl⟩
  have hML : rs.maybe.length = mm + 1 := by rw [hM, hmm]; simp
  obtain ⟨g, o0, cM, eM, hcm⟩ := strs_at (k := mm) hi.rM.strs (by omega)
  have hgm : rs.maybe[mm]'(by omega) = m := by subst hmm; simp [hM]
  rw [hgm] at hcm
  subst eM
  have hLast : LastIn rb g (o0 + mm) vL (.slice (some ⟨g, o0, none⟩) rs.maybe.length cM) m w := ⟨c0, c1, hcm⟩
  have hbs := Try.bs64
  have HJ0 := Lib.hid (And.intro (lt_of_heap hi.hdr) hi.hb)
  have hlL : rs.L.length ≤ 100000000 := by omega
  have rLw := hi.rL
  -- the three orders
  have oA1 : Only Nob w (w.alloc (.cells #[] 9)).drew := (Only.alloc Nob _ _).trans (Only.drew _ _) (fun _ _ h => h)
  obtain ⟨aoA, capA, w3A, runA, rowA, oA3, blA, _⟩ := two_appends w (w.alloc (.cells #[] 9)).drew vL rs.L (rLw.other oA1 (fun _ _ h => h)) oA1 w.heap.size ((Srow.empty w).other (Only.drew Nob _) (fun _ _ h => h)) (Nat.le_refl _) hlL
  have oA4 : Only Nob w (w3A.alloc (.cells #[.string ⟨m.toArray⟩] 9)) := oA3.trans (Only.alloc Nob _ _) (fun _ _ h => h)
  obtain ⟨gA, kA, w4A, run2A, row2A, oA5⟩ := third_append w (w3A.alloc (.cells #[.string ⟨m.toArray⟩] 9)) _ rs.L m (rowA.other (Only.alloc Nob _ _) (fun _ _ h => h)) oA4 blA w3A.heap.size (by rw [World.cell?_alloc_new]; rfl) hlL
  have oB2 : Only Nob w ((w.alloc (.cells #[] 9)).alloc (.cells #[.string ⟨m.toArray⟩] 9)).drew := (Only.alloc Nob _ _).trans ((Only.alloc Nob _ _).trans (Only.drew _ _) (fun _ _ h => h)) (fun _ _ h => h)
  obtain ⟨aoB, capB, w3B, runB, rowB, oB3, blB, cB⟩ := two_appends w ((w.alloc (.cells #[] 9)).alloc (.cells #[.string ⟨m.toArray⟩] 9)).drew vL rs.L (rLw.other oB2 (fun _ _ h => h)) oB2 w.heap.size (((Srow.empty w).other (Only.alloc Nob _ _) (fun _ _ h => h)).other (Only.drew Nob _) (fun _ _ h => h)) (Nat.le_refl _) hlL
  obtain ⟨gB, kB, w4B, run2B, row2B, oB5⟩ := third_append w w3B _ rs.L m rowB oB3 blB (w.heap.size + 1) (cB _ m (by omega) (by
    have e : (w.alloc (.cells #[] 9)).heap.size = w.heap.size + 1 := by simp
    show ((w.alloc (.cells #[] 9)).alloc (.cells #[.string ⟨m.toArray⟩] 9)).cell? _ = _
    rw [← e, World.cell?_alloc_new]; rfl)) hlL
  have oC1 : Only Nob w (w.alloc (.cells #[.string ⟨m.toArray⟩] 9)).drew := (Only.alloc Nob _ _).trans (Only.drew _ _) (fun _ _ h => h)
  have oC2 : Only Nob w ((w.alloc (.cells #[.string ⟨m.toArray⟩] 9)).alloc (.cells #[] 9)).drew := (Only.alloc Nob _ _).trans ((Only.alloc Nob _ _).trans (Only.drew _ _) (fun _ _ h => h)) (fun _ _ h => h)
  obtain ⟨aoC, capC, w3C, runC, rowC, oC3, blC, cC⟩ := two_appends w ((w.alloc (.cells #[.string ⟨m.toArray⟩] 9)).alloc (.cells #[] 9)).drew vL rs.L (rLw.other oC2 (fun _ _ h => h)) oC2 (w.heap.size + 1) ((show Srow ((w.alloc (.cells #[.string ⟨m.toArray⟩] 9)).alloc (.cells #[] 9)) (.slice (some ⟨w.heap.size + 1, 0, none⟩) 0 0) [] by
    have h := Srow.empty (w.alloc (.cells #[.string ⟨m.toArray⟩] 9))
    rw [World.size_alloc] at h; exact h).other (Only.drew Nob _) (fun _ _ h => h)) (by omega) hlL
  obtain ⟨gC, kC, w4C, run2C, row2C, oC5⟩ := third_append w w3C _ rs.L m rowC oC3 blC w.heap.size (cC _ m (by omega) (by
    have h := (Only.alloc Nob (w.alloc (.cells #[.string ⟨m.toArray⟩] 9)) (.cells #[] 9)).cell (a := ⟨w.heap.size, 0, none⟩) (by simp) (fun h => h)
    show ((w.alloc (.cells #[.string ⟨m.toArray⟩] 9)).alloc (.cells #[] 9)).cell? _ = _
    rw [h, World.cell?_alloc_new]; rfl)) hlL
  rw [hll, hLl] at row2A row2B row2C
  rw [hLl] at run2A run2B run2C
  have sA := Lib.hid (same_yes _ (.slice (some ⟨gA, 0, none⟩) l.length kA) l w4A (hl.strs.other oA5 (fun _ _ _ _ _ h => h)) row2A.strs (by omega))
  have sB := Lib.hid (same_yes _ (.slice (some ⟨gB, 0, none⟩) l.length kB) l w4B (hl.strs.other oB5 (fun _ _ _ _ _ h => h)) row2B.strs (by omega))
  have sC := Lib.hid (same_yes _ (.slice (some ⟨gC, 0, none⟩) l.length kC) l w4C (hl.strs.other oC5 (fun _ _ _ _ _ h => h)) row2C.strs (by omega))
  have R1A := Lib.hid runA
  have R1B := Lib.hid runB
  have R1C := Lib.hid runC
  have R2A := Lib.hid run2A
  have R2B := Lib.hid run2B
  have R2C := Lib.hid run2C
  have K0 := Lib.hid (hLast.other (Only.drew Nob w))
  have KA1 := Lib.hid (hLast.other oA1)
  have KA3 := Lib.hid (hLast.other oA3)
  have KA4 := Lib.hid (hLast.other oA4)
  have KA5 := Lib.hid (hLast.other oA5)
  have KB2 := Lib.hid (hLast.other oB2)
  have KB3 := Lib.hid (hLast.other oB3)
  have KB5 := Lib.hid (hLast.other oB5)
  have KC1 := Lib.hid (hLast.other oC1)
  have KC2 := Lib.hid (hLast.other oC2)
  have KC3 := Lib.hid (hLast.other oC3)
  have KC5 := Lib.hid (hLast.other oC5)
  have OA5 := Lib.hid oA5
  have OB5 := Lib.hid oB5
  have OC5 := Lib.hid oC5
  have HL0 := Lib.hid hLast
  have i1 : IntKind.i64.wrap ((rs.maybe.length : Int) - 1) = (mm : Int) := by rw [IntWalk.i64_in _ (by omega)]; omega
  have i2 : (0 : Int) ≤ (mm : Int) := by omega
  have i3 : (mm : Int) < (rs.maybe.length : Int) := by omega
  have i4 : decide ((0 : Int) < (rs.maybe.length : Int)) = true := by rw [decide_eq_true_iff]; omega
  have i5 : decide (0 < rs.maybe.length) = true := by rw [decide_eq_true_iff]; omega
  have i6 : 0 < rs.maybe.length := by omega
  clear c3 oA1 runA rowA oA3 blA oA4 run2A row2A oA5 oB2 runB rowB oB3 blB cB run2B row2B oB5 oC1 oC2 runC rowC oC3 blC cC run2C row2C oC5 rLw hLast hM hML hgm hmm hll hLl hi f hbr
  go_enter Try.func46, Try.ntmps46
  go_wp2_with fail
  refine hS.out.mono ?_
  rintro e w' ⟨rfl, rfl⟩
  go_wp2_with fail
  have mark1 := Lib.hid trivial
  go_region_held3 (fun w' => w'.cell? ⟨rb, 0, none⟩ = some vL ∧ w'.cell? ⟨rb, 1, none⟩ = some (.slice (some ⟨g, o0, none⟩) rs.maybe.length cM) ∧ w'.cell? ⟨g, o0 + mm, none⟩ = some (.string ⟨m.toArray⟩))
    ((change LastIn rb g (o0 + mm) vL (.slice (some ⟨g, o0, none⟩) rs.maybe.length cM) m _; with_reducible first | exact KX.out | exact K0.out | exact KA1.out | exact KA3.out | exact KA4.out | exact KA5.out | exact KB2.out | exact KB3.out | exact KB5.out | exact KC1.out | exact KC2.out | exact KC3.out | exact KC5.out))
    (first
      | (have mk := mark3A; go_at_call 47; (with_reducible refine sA.out.mono ?_); rintro e wX ⟨rfl, oY⟩; have oX := OA5.out.trans oY (fun _ _ h => h); have KX := Lib.hid (HL0.out.other oX))
      | (have mk := mark3B; go_at_call 47; (with_reducible refine sB.out.mono ?_); rintro e wX ⟨rfl, oY⟩; have oX := OB5.out.trans oY (fun _ _ h => h); have KX := Lib.hid (HL0.out.other oX))
      | (have mk := mark3C; go_at_call 47; (with_reducible refine sC.out.mono ?_); rintro e wX ⟨rfl, oY⟩; have oX := OC5.out.trans oY (fun _ _ h => h); have KX := Lib.hid (HL0.out.other oX))
      | (have mk := mark2A; refine step_append_run rfl (.tmp 35) (.tmp 48) 64 64 rfl _ _ rfl rfl _ _ R2A.out ?_; have mark3A := Lib.hid trivial; clear mark2A mk)
      | (have mk := mark2B; refine step_append_run rfl (.tmp 35) (.tmp 48) 64 64 rfl _ _ rfl rfl _ _ R2B.out ?_; have mark3B := Lib.hid trivial; clear mark2B mk)
      | (have mk := mark2C; refine step_append_run rfl (.tmp 35) (.tmp 48) 64 64 rfl _ _ rfl rfl _ _ R2C.out ?_; have mark3C := Lib.hid trivial; clear mark2C mk)
      | (have mk := mark1; (with_reducible refine step_append_run rfl (.tmp 30) (.tmp 34) 64 64 rfl _ _ (by simp [Act.eval]) (by simp [Act.eval]) _ _ R1A.out ?_); have mark2A := Lib.hid trivial; clear mark1 mk)
      | (have mk := mark1; (with_reducible refine step_append_run rfl (.tmp 30) (.tmp 34) 64 64 rfl _ _ (by simp [Act.eval]) (by simp [Act.eval]) _ _ R1B.out ?_); have mark2B := Lib.hid trivial; clear mark1 mk)
      | (have mk := mark1; (with_reducible refine step_append_run rfl (.tmp 30) (.tmp 34) 64 64 rfl _ _ (by simp [Act.eval]) (by simp [Act.eval]) _ _ R1C.out ?_); have mark2C := Lib.hid trivial; clear mark1 mk))
  all_goals
    clear KX KA1 KA3 KA4 KA5 KB2 KB3 KB5 KC1 KC2 KC3 KC5 K0 R1A R1B R1C R2A R2B R2C sA sB sC OA5 OB5 OC5 HL0 i1 i2 i3 i4 i5 i6 oY
    obtain ⟨v', w3, hrun, hrow, oA, hfr⟩ := run_append_srow (wX.alloc (.cells #[] 9)) (.slice (some ⟨wX.heap.size, 0, none⟩) 0 0) (.slice al l.length cl) [] l (Srow.empty wX) ((hl.other oX (fun _ _ h => h)).other (Only.alloc Nob _ _) (fun _ _ h => h)) (by simp; omega)
    rw [List.nil_append] at hrow
    have oA' : Only (fun k => k = wX.heap.size) (wX.alloc (.cells #[] 9)) w3 := oA.mono (fun k _ hk => by
      have : wX.heap.size = k := by simpa [Blk, Value.ownBlock] using hk
      omega)
    have hfr' : ∀ k, Blk v' k → k = wX.heap.size ∨ wX.heap.size + 1 ≤ k := fun k hk => by
      rcases hfr k hk with h | h
      · left; have : wX.heap.size = k := by simpa [Blk, Value.ownBlock] using h
        omega
      · right; simpa using h
    obtain ⟨⟨u0, u1, u2, u3, hd3⟩, hR, oR⟩ := opens_mid hJ oX oA' hrow hfr'
    have q0 : w3.cell? ⟨rb, 0, none⟩ = some u0 := by simp [World.cell?, hd3]
    have q1 : w3.cell? ⟨rb, 1, none⟩ = some u1 := by simp [World.cell?, hd3]
    have q2 : w3.cell? ⟨rb, 2, none⟩ = some u2 := by simp [World.cell?, hd3]
    have q3 : w3.cell? ⟨rb, 3, none⟩ = some u3 := by simp [World.cell?, hd3]
    have qf : ∀ i, w3.frozen? ⟨rb, i, none⟩ = false := by simp [World.frozen?, hd3]
    obtain ⟨ao, cap, rfl, _⟩ := own_form hrow
    have HR := Lib.hid hR
    have HO := Lib.hid oR
    clear hR oR hd3 hrow oA oA' hfr hfr' c0 hJ
    go_wp2_with (at_builtin; refine Lib.wpList_append_run _ rfl (.tmp 52) (.tmp 53) 64 64 rfl _ _ rfl rfl _ _ hrun ?_)
    have HL := Lib.hid hl
    clear q0 q1 q2 q3 qf hrun hl
    go_loopw [6] (fun iv wr => ∃ fW, OpensRel w fp fW rb (.slice ao ([] ++ l).length cap) (.slice al l.length cl) l iv wr) (fun iv _ => l.length - (intOf iv).toNat)
    case atStart =>
      refine ⟨_, 0, rfl, Nat.zero_le _, HR.out, HL.out.other HO.out (fun k hk hx => hn k hk hx), HO.out, rfl⟩
    case round =>
      obtain ⟨fW, k, rfl, g1, g2, g3, g4, g5⟩ := hrel
      by_cases hk : k < l.length
      · obtain ⟨pg, hpg⟩ : ∃ pg, al = some ⟨pg, 0, none⟩ := by
          obtain ⟨pg, cp, hv, _, _⟩ := own_form_pos g3 (by omega)
          simp only [Value.slice.injEq] at hv
          exact ⟨pg, hv.1⟩
        subst hpg
        obtain ⟨b1, o1, c1, e1, e2⟩ := strs_at g3.strs hk
        simp only [Value.slice.injEq, Option.some.injEq, Addr.mk.injEq] at e1
        obtain ⟨⟨rfl, rfl, _⟩, _, rfl⟩ := e1
        rw [Nat.zero_add] at e2
        unfold SV at e2
        obtain ⟨_, _, _, x3, xf⟩ := g2.cells
        have y3 := xf 3
        have h0 : (0 : Int) ≤ (k : Int) := by omega
        have hk2 : (k : Int) < (l.length : Int) := by omega
        have hst := sumB_take l k hk
        have hle := sumB_le l (k + 1)
        have hlb : l[k].length ≤ 1000000000000000 := by omega
        have hsb : sumB (l.take k) ≤ 1000000000000000 := by omega
        have HST := Lib.hid hst
        have hne : pg ≠ rb := fun e => hn pg rfl (e ▸ HJ0.out.2)
        have hrbl : rb < w.heap.size := HJ0.out.1
        simp only [] at x3
        clear hst hle xf
        generalize hrk : l[k] = rk at e2 hlb HST
        clear hrk
        go_wp2
        go_region
        all_goals
          have hcast : (sumB (l.take k) : Int) + (rk.length : Int) + 16 = ((sumB (l.take (k + 1)) : Nat) : Int) := by rw [HST.out]; omega
          have HC := Lib.hid hcast
          clear hcast
          go_wp2
          go_roundw
          case rel =>
            rw [HC.out]
            have o9 : Only (Is rb) wr (wr.setCell ⟨rb, 3, none⟩ (.int .i64 ((sumB (l.take (k + 1)) : Nat) : Int))) := Only.setCell _ _ _ rfl
            subst g5
            have R9 := rin_bytes g2 (sumB (l.take (k + 1)))
            have hs9 : (wr.setCell ⟨rb, 3, none⟩ (.int .i64 ((sumB (l.take (k + 1)) : Nat) : Int))).heap.size = wr.heap.size := by simp
            exact ⟨_, k + 1, by simp, hk, R9.other (Only.drew Nob _) (fun _ _ h => h), (g3.other o9 (fun j hj hx => hne (by
              have h1 : pg = j := by simpa [Blk, Value.ownBlock] using hj
              have h2 : j = rb := hx
              omega))).other (Only.drew Nob _) (fun _ _ h => h), (g4.trans o9 (fun i _ hx => by obtain rfl : i = rb := hx; exact HJ0.out.2)).trans (Only.drew _ _) (fun _ _ h => h), rfl⟩
          case measure => simp [intOf]; omega
      · go_wp2
        go_ret
        have hkl : k = l.length := by omega
        subst hkl
        rw [List.take_length] at g2
        rw [g5] at g2
        exact ⟨by simp, ⟨_, _, g2⟩, g4⟩

end Go.Proofs.Ytdpebdghhgojaaa
