/- The walks of DiskAgain and DiskReads. -/
import Derived.Test.YtdpebdghhgojaaaCrashes
namespace Go.Proofs.Ytdpebdghhgojaaa
open Go.RowKit

theorem crash_again (d : DS) (za zb : List Int) : (d.crashed za).crashed zb = d.crashed za := rfl

set_option maxRecDepth 100000 in
set_option maxHeartbeats 4000000 in
theorem again_walk (v : Value) (l : List Act') (va : Value) (za : List Int) (vb : Value) (zb : List Int) (w : World) (hl : Acts w v l) (ha : Ints w va za) (hb : Ints w vb zb) :
    Calls Try.prog 9 #[v, va, vb] w fun e w' => e = .returned (.bool true) ∧ Only Nob w w' := by
  obtain ⟨⟨a0, cap0, rfl⟩, hlen⟩ := acts_form hl
  go_enter Try.func9, Try.ntmps9
  go_wp2_with fail
  refine (sanity_any _).mono ?_
  rintro e w0 ⟨rfl, o0⟩
  go_wp2_with fail
  refine (new_any _).mono ?_
  rintro e w1 ⟨b, rfl, -, d1, o1, -⟩
  go_wp2_with fail
  refine (rnew_any _).mono ?_
  rintro e w2 ⟨rb, rfl, -, r2, o2⟩
  obtain ⟨hdesk, o3⟩ := desk_new d1 o1 r2 o2
  have HR : CrashesRel 15 w2.heap.size w (.int .i64 (0 : Nat)) (w2.alloc (.cells #[.pointer (some ⟨b, 0, none⟩), .pointer (some ⟨rb, 0, none⟩)] 30)) :=
    ⟨0, .new, _, rfl, by omega, hdesk, (Since.nob w).grow o0.size, Nat.le_refl _, o0.trans o3 (fun _ _ h => h)⟩
  clear hdesk d1 r2 o1 o2 o3
  go_wp2_with fail
  go_loopw [9] (fun iv wr => CrashesRel 15 w2.heap.size w iv wr) (fun iv _ => 15 - (intOf iv).toNat)
  case atStart => exact HR
  case round =>
    obtain ⟨k, d, fp, rfl, g1, g2, g3, g4, g5⟩ := hrel
    clear HR
    by_cases hk : k < l.length ∧ k < 15
    · obtain ⟨hk1, hk2⟩ := hk
      obtain ⟨_, b0, off, c, hv, _, hc⟩ := hl.resolve_left (fun h => by rw [h.1] at hk1; simp at hk1)
      simp only [Value.slice.injEq, true_and] at hv
      obtain ⟨rfl, rfl⟩ := hv
      obtain ⟨q0, q1, q2, q3, q4⟩ := hc k hk1
      have hb0 := World.block_lt_of_cell? w _ q0
      have e0 := (g5.cell hb0 (fun h => h)).trans q0
      have e1 := (g5.cell (a := ⟨b0, off + k * 4 + 1, none⟩) hb0 (fun h => h)).trans q1
      have e2 := (g5.cell (a := ⟨b0, off + k * 4 + 2, none⟩) hb0 (fun h => h)).trans q2
      have e3 := (g5.cell (a := ⟨b0, off + k * 4 + 3, none⟩) hb0 (fun h => h)).trans q3
      obtain ⟨⟨ka, oa, na, ta⟩, hp⟩ : ∃ p, p = l[k] := ⟨_, rfl⟩
      rw [← hp] at e0 e1 e2 e3 q4
      clear hp q0 q1 q2 q3 hc
      have hz := g5.size
      go_wp2_with fail
      refine (do_any fp w2.heap.size d ka oa na ta _ g2 (by omega) q4.1 q4.2.1 q4.2.2.1 q4.2.2.2).mono ?_
      rintro e w4 ⟨rfl, p1, p2⟩
      have p2' := g3.only g5 p2
      have hs4 := g3.grow (b := w4) g5.size
      have hca := act_calls d ka oa na ta
      generalize d.act ka oa na ta = d4 at p1 hca
      clear e0 e1 e2 e3 q4
      go_wp2
      go_roundw
      case rel => exact ⟨k + 1, d4, _, by simp, by omega, p1, hs4, by omega, p2'⟩
      case measure => simp [intOf]; omega
    · obtain ⟨hltd, fd, fr, db, rb4, hi⟩ := g2
      obtain ⟨c0, c1⟩ := hi.hdr.cells
      have ha0 := ha.other g5 (fun _ _ _ _ _ h => h)
      have hb0 := hb.other g5 (fun _ _ _ _ _ h => h)
      clear hl
      by_cases hk1 : k < l.length
      all_goals
        go_wp2_with fail
        refine (crash_any fd db d va za _ hi.disk ha0).mono ?_
        rintro e w4 ⟨cb, rfl, -, p1, p2⟩
        go_wp2_with fail
        refine (crash_any _ cb _ vb zb _ p1 (hb0.other p2 (fun _ _ _ _ _ h => h))).mono ?_
        rintro e w5 ⟨cb2, rfl, -, p3, p4⟩
        rw [crash_again] at p3
        have p1' := p1.other p4 (fun _ _ h => h)
        go_wp2_with fail
        refine (size_any _ cb2 _ _ p3).mono ?_
        rintro e w' ⟨rfl, rfl⟩
        go_wp2_with fail
        refine (size_any _ cb _ _ p1').mono ?_
        rintro e w' ⟨rfl, rfl⟩
        go_wp2_with fail
        refine (read_all _ cb2 0 33554432 _ _ p3 (rng_small (by omega) (by omega)) (rng_small (by omega) (by omega))).mono ?_
        rintro e w6 ⟨rfl, o6⟩
        go_wp2_with fail
        refine (read_all _ cb 0 33554432 _ _ (p1'.other o6 (fun _ _ h => h)) (rng_small (by omega) (by omega)) (rng_small (by omega) (by omega))).mono ?_
        rintro e w7 ⟨rfl, o7⟩
        go_wp2_with fail
        refine (calls_any _ cb2 _ _ ((p3.other o6 (fun _ _ h => h)).other o7 (fun _ _ h => h))).mono ?_
        rintro e w' ⟨rfl, rfl⟩
        go_wp2
        go_ret
        exact ⟨rfl, g5.trans (p2.trans (p4.trans (o6.trans o7 (fun _ _ h => h)) (fun _ _ h => h)) (fun _ _ h => h)) (fun _ _ h => h)⟩

set_option maxRecDepth 100000 in
set_option maxHeartbeats 4000000 in
theorem reads_walk (s : ByteArray) (at' q0 q1 : Int) (w : World) (hs : s.size ≤ 9223372036854775807) (hat : Rng at') (hq0 : Rng q0) (hq1 : Rng q1) :
    Calls Try.prog 10 #[.string s, .int .i64 at', .agg #[.int .i64 q0, .int .i64 q1]] w fun e w' => e = .returned (.bool true) ∧ Only Nob w w' := by
  have m0 : 0 ≤ at' % 8 := Int.emod_nonneg _ (by omega)
  have m1 : at' % 8 < 8 := Int.emod_lt_of_pos _ (by omega)
  go_enter Try.func10, Try.ntmps10
  go_wp2_with fail
  refine (sanity_any _).mono ?_
  rintro e w0 ⟨rfl, o0⟩
  have ob : Only Nob w (w.alloc (.cells #[.int .i64 q0, .int .i64 q1] 42)) := Only.alloc _ _ _
  have hq00 : (w.alloc (.cells #[.int .i64 q0, .int .i64 q1] 42)).cell? ⟨w.heap.size, 0, none⟩ = some (.int .i64 q0) := by rw [World.cell?_alloc_new]; rfl
  have hq01 : (w.alloc (.cells #[.int .i64 q0, .int .i64 q1] 42)).cell? ⟨w.heap.size, 1, none⟩ = some (.int .i64 q1) := by rw [World.cell?_alloc_new]; rfl
  have hbl : w.heap.size < (w.alloc (.cells #[.int .i64 q0, .int .i64 q1] 42)).heap.size := by simp
  go_wp2_with fail
  refine (new_any _).mono ?_
  rintro e w1 ⟨b, rfl, -, d1, o1, -⟩
  go_wp2_with fail
  refine (rnew_any _).mono ?_
  rintro e w2 ⟨rb, rfl, -, r2, o2⟩
  obtain ⟨hdesk, o3⟩ := desk_new d1 o1 r2 o2
  clear d1 r2 o1 o2
  go_wp2_with fail
  refine (mod_any at' 8 _ hat (by omega) (by omega)).mono ?_
  rintro e w' ⟨rfl, rfl⟩
  go_wp2_with fail
  refine (do_any _ _ _ 0 (1 + at' % 8) 0 s _ hdesk (by decide) (rng_small (by omega) (by omega)) (rng_small (by omega) (by omega)) (rng_small (by omega) (by omega)) hs).mono ?_
  rintro e w4 ⟨rfl, p1, p2⟩
  have o4 := ((Since.nob w0).grow (b := (w2.alloc (.cells #[.pointer (some ⟨b, 0, none⟩), .pointer (some ⟨rb, 0, none⟩)] 30))) (Nat.le_refl _)).only o3 p2
  generalize DS.new.act 0 (1 + at' % 8) 0 s = d at p1
  have o04 := o0.trans o4 (fun _ _ h => h)
  have q40 := (o04.cell (a := ⟨w.heap.size, 0, none⟩) hbl (fun h => h)).trans hq00
  have q41 := (o04.cell (a := ⟨w.heap.size, 1, none⟩) hbl (fun h => h)).trans hq01
  have hbl4 : w.heap.size < w4.heap.size := by have := o04.size; omega
  obtain ⟨_, fd, fr, db, rb4, hi⟩ := p1
  obtain ⟨c0, c1⟩ := hi.hdr.cells
  clear hq00 hq01 hdesk
  have n0 : 0 ≤ q0 % 230 := Int.emod_nonneg _ (by omega)
  have n1 : q0 % 230 < 230 := Int.emod_lt_of_pos _ (by omega)
  have n2 : 0 ≤ q1 % 20 := Int.emod_nonneg _ (by omega)
  have n3 : q1 % 20 < 20 := Int.emod_lt_of_pos _ (by omega)
  go_wp2_with fail
  refine (mod_any q0 230 _ hq0 (by omega) (by omega)).mono ?_
  rintro e w' ⟨rfl, rfl⟩
  have od := Only.drew Nob w4
  have hi0 := hi.other od (fun _ _ h => h)
  go_wp2_with fail
  simp only [List.append]
  go_region_held3 (fun w' => w'.cell? ⟨w2.heap.size, 0, none⟩ = some (.pointer (some ⟨db, 0, none⟩)) ∧ w'.cell? ⟨w2.heap.size, 1, none⟩ = some (.pointer (some ⟨rb4, 0, none⟩)) ∧ w'.cell? ⟨w.heap.size, 0, none⟩ = some (.int .i64 q0) ∧ w'.cell? ⟨w.heap.size, 1, none⟩ = some (.int .i64 q1))
    (first | exact S6 | exact S5 | exact S4 | exact S3 | exact S2 | exact S1 | exact ⟨c0, c1, q40, q41⟩ | go_keep)
    (first
      | (go_at_call 37; refine (rread_all fr rb4 (q0 % 230) (q1 % 20) d _ h5.ref (rng_small (by omega) (by omega)) (rng_small (by omega) (by omega))).mono ?_; rintro e w15 ⟨rfl, o15⟩; have h6 := h5.other o15 (fun _ _ h => h); have S6 := And.intro h6.hdr.cells.1 (And.intro h6.hdr.cells.2 (And.intro ((o15.cell (a := ⟨w.heap.size, 0, none⟩) (World.block_lt_of_cell? _ _ S5.2.2.1) (fun h => h)).trans S5.2.2.1) ((o15.cell (a := ⟨w.heap.size, 1, none⟩) (World.block_lt_of_cell? _ _ S5.2.2.2) (fun h => h)).trans S5.2.2.2))))
      | (go_at_call 35; refine (read_all fd db (q0 % 230) (q1 % 20) d _ h4.disk (rng_small (by omega) (by omega)) (rng_small (by omega) (by omega))).mono ?_; rintro e w14 ⟨rfl, o14⟩; have h5 := h4.other o14 (fun _ _ h => h); have S5 := And.intro h5.hdr.cells.1 (And.intro h5.hdr.cells.2 (And.intro ((o14.cell (a := ⟨w.heap.size, 0, none⟩) (World.block_lt_of_cell? _ _ S4.2.2.1) (fun h => h)).trans S4.2.2.1) ((o14.cell (a := ⟨w.heap.size, 1, none⟩) (World.block_lt_of_cell? _ _ S4.2.2.2) (fun h => h)).trans S4.2.2.2))))
      | (go_at_call 37; refine (rread_all fr rb4 (q0 % 230) q1 d _ h3.ref (rng_small (by omega) (by omega)) hq1).mono ?_; rintro e w13 ⟨rfl, o13⟩; have h4 := h3.other o13 (fun _ _ h => h); have S4 := And.intro h4.hdr.cells.1 (And.intro h4.hdr.cells.2 (And.intro ((o13.cell (a := ⟨w.heap.size, 0, none⟩) (World.block_lt_of_cell? _ _ S3.2.2.1) (fun h => h)).trans S3.2.2.1) ((o13.cell (a := ⟨w.heap.size, 1, none⟩) (World.block_lt_of_cell? _ _ S3.2.2.2) (fun h => h)).trans S3.2.2.2))))
      | (go_at_call 35; refine (read_all fd db (q0 % 230) q1 d _ h2.disk (rng_small (by omega) (by omega)) hq1).mono ?_; rintro e w12 ⟨rfl, o12⟩; have h3 := h2.other o12 (fun _ _ h => h); have S3 := And.intro h3.hdr.cells.1 (And.intro h3.hdr.cells.2 (And.intro ((o12.cell (a := ⟨w.heap.size, 0, none⟩) (World.block_lt_of_cell? _ _ S2.2.2.1) (fun h => h)).trans S2.2.2.1) ((o12.cell (a := ⟨w.heap.size, 1, none⟩) (World.block_lt_of_cell? _ _ S2.2.2.2) (fun h => h)).trans S2.2.2.2))))
      | (go_at_call 37; refine (rread_all fr rb4 q0 q1 d _ h1.ref hq0 hq1).mono ?_; rintro e w11 ⟨rfl, o11⟩; have h2 := h1.other o11 (fun _ _ h => h); have S2 := And.intro h2.hdr.cells.1 (And.intro h2.hdr.cells.2 (And.intro ((o11.cell (a := ⟨w.heap.size, 0, none⟩) (World.block_lt_of_cell? _ _ S1.2.2.1) (fun h => h)).trans S1.2.2.1) ((o11.cell (a := ⟨w.heap.size, 1, none⟩) (World.block_lt_of_cell? _ _ S1.2.2.2) (fun h => h)).trans S1.2.2.2))))
      | (go_at_call 35; refine (read_all fd db q0 q1 d _ hi0.disk hq0 hq1).mono ?_; rintro e w10 ⟨rfl, o10⟩; have h1 := hi0.other o10 (fun _ _ h => h); have S1 := And.intro h1.hdr.cells.1 (And.intro h1.hdr.cells.2 (And.intro ((o10.cell (a := ⟨w.heap.size, 0, none⟩) hbl4 (fun h => h)).trans q40) ((o10.cell (a := ⟨w.heap.size, 1, none⟩) hbl4 (fun h => h)).trans q41))))
      | (go_at_call 28; refine (mod_any q1 20 _ hq1 (by omega) (by omega)).mono ?_; rintro e w' ⟨rfl, rfl⟩))
  go_wp2
  go_ret
  exact ⟨by simp, ob.trans (o04.trans (od.trans (o10.trans (o11.trans (o12.trans (o13.trans (o14.trans o15 (fun _ _ h => h)) (fun _ _ h => h)) (fun _ _ h => h)) (fun _ _ h => h)) (fun _ _ h => h)) (fun _ _ h => h)) (fun _ _ h => h)) (fun _ _ h => h)⟩
end Go.Proofs.Ytdpebdghhgojaaa
