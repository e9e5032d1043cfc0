/- The walk of DiskCrashes. -/
import Derived.Test.YtdpebdghhgojaaaPlays
namespace Go.Proofs.Ytdpebdghhgojaaa
open Go.RowKit

/-- A desk of two new disks of one state. -/
theorem desk_any {w0 w1 w2 : World} {b rb : Nat} {d : DS} (d1 : DiskAt w1 (grow Nob w0 w1) b d) (o1 : Only Nob w0 w1) (r2 : RefAt w2 (grow Nob w1 w2) rb d) (o2 : Only Nob w1 w2) :
    DeskAt (w2.alloc (.cells #[.pointer (some ⟨b, 0, none⟩), .pointer (some ⟨rb, 0, none⟩)] 30)) (grow Nob w0 (w2.alloc (.cells #[.pointer (some ⟨b, 0, none⟩), .pointer (some ⟨rb, 0, none⟩)] 30))) w2.heap.size d ∧
      Only Nob w0 (w2.alloc (.cells #[.pointer (some ⟨b, 0, none⟩), .pointer (some ⟨rb, 0, none⟩)] 30)) := by
  have z1 := o1.size
  have z2 := o2.size
  have oa : Only Nob w2 (w2.alloc (.cells #[.pointer (some ⟨b, 0, none⟩), .pointer (some ⟨rb, 0, none⟩)] 30)) := Only.alloc _ _ _
  have sz : (w2.alloc (.cells #[.pointer (some ⟨b, 0, none⟩), .pointer (some ⟨rb, 0, none⟩)] 30)).heap.size = w2.heap.size + 1 := by simp
  have oall := o1.trans (o2.trans oa (fun _ _ h => h)) (fun _ _ h => h)
  refine ⟨⟨grow_lt (fun _ h => h.elim) oall.size, grow Nob w0 w1, grow Nob w1 w2, b, rb, heap_alloc_new w2 _, (d1.other o2 (fun _ _ h => h)).other oa (fun _ _ h => h), r2.other oa (fun _ _ h => h), .inr ⟨by omega, by rw [sz]; omega⟩, ?_, ?_⟩, oall⟩
  · rintro k (hk | ⟨hk, hk2⟩)
    · exact hk.elim
    · exact ⟨.inr ⟨hk, by rw [sz]; omega⟩, by omega⟩
  · rintro k (hk | ⟨hk, hk2⟩)
    · exact hk.elim
    · refine ⟨.inr ⟨by omega, by rw [sz]; omega⟩, by omega, ?_⟩
      rintro (hx | ⟨_, hx⟩)
      · exact hx
      · omega

def CrashesRel (B x : Nat) (w : World) (iv : Value) (wr : World) : Prop :=
  ∃ (k : Nat) (d : DS) (fp : Nat → Prop), iv = .int .i64 k ∧ k ≤ B ∧ DeskAt wr fp x d ∧ Since w fp ∧ d.calls ≤ k ∧ Only Nob w wr

theorem acts_form {w : World} {v : Value} {l : List Act'} (hl : Acts w v l) : (∃ a0 cap0, v = .slice a0 l.length cap0) ∧ l.length ≤ 9223372036854775807 := by
  rcases hl with ⟨rfl, a, c, rfl⟩ | ⟨_, b, off, c, rfl, h, _⟩
  · exact ⟨⟨a, c, rfl⟩, by simp⟩
  · exact ⟨⟨_, c, rfl⟩, h⟩

set_option maxRecDepth 100000 in
set_option maxHeartbeats 4000000 in
theorem crashes_walk (v : Value) (l : List Act') (va : Value) (zs : List Int) (n : Int) (w : World) (hl : Acts w v l) (ha : Ints w va zs) (hn : Rng n) :
    Calls Try.prog 4 #[v, va, .int .i64 n] w fun e w' => e = .returned (.bool true) ∧ Only Nob w w' := by
  obtain ⟨⟨a0, cap0, rfl⟩, hlen⟩ := acts_form hl
  go_enter Try.func4, Try.ntmps4
  go_wp2_with fail
  refine (sanity_any _).mono ?_
  rintro e w0 ⟨rfl, o0⟩
  go_wp2_with fail
  refine (new_any _).mono ?_
  rintro e w1 ⟨b, rfl, -, d1, o1, -⟩
  go_wp2_with fail
  refine (rnew_any _).mono ?_
  rintro e w2 ⟨rb, rfl, -, r2, o2⟩
  obtain ⟨hdesk, o3⟩ := desk_new d1 o1 r2 o2
  have HR : CrashesRel 20 w2.heap.size w (.int .i64 (0 : Nat)) (w2.alloc (.cells #[.pointer (some ⟨b, 0, none⟩), .pointer (some ⟨rb, 0, none⟩)] 30)) :=
    ⟨0, .new, _, rfl, by omega, hdesk, (Since.nob w).grow o0.size, Nat.le_refl _, o0.trans o3 (fun _ _ h => h)⟩
  clear hdesk d1 r2 o1 o2 o3
  go_wp2_with fail
  go_loopw [9] (fun iv wr => CrashesRel 20 w2.heap.size w iv wr) (fun iv _ => 20 - (intOf iv).toNat)
  case atStart => exact HR
  case round =>
    obtain ⟨k, d, fp, rfl, g1, g2, g3, g4, g5⟩ := hrel
    clear HR
    by_cases hk : k < l.length ∧ k < 20
    · obtain ⟨hk1, hk2⟩ := hk
      obtain ⟨_, b0, off, c, hv, _, hc⟩ := hl.resolve_left (fun h => by rw [h.1] at hk1; simp at hk1)
      simp only [Value.slice.injEq, true_and] at hv
      obtain ⟨rfl, rfl⟩ := hv
      obtain ⟨q0, q1, q2, q3, q4⟩ := hc k hk1
      have hb0 := World.block_lt_of_cell? w _ q0
      have e0 := (g5.cell hb0 (fun h => h)).trans q0
      have e1 := (g5.cell (a := ⟨b0, off + k * 4 + 1, none⟩) hb0 (fun h => h)).trans q1
      have e2 := (g5.cell (a := ⟨b0, off + k * 4 + 2, none⟩) hb0 (fun h => h)).trans q2
      have e3 := (g5.cell (a := ⟨b0, off + k * 4 + 3, none⟩) hb0 (fun h => h)).trans q3
      obtain ⟨⟨ka, oa, na, ta⟩, hp⟩ : ∃ p, p = l[k] := ⟨_, rfl⟩
      rw [← hp] at e0 e1 e2 e3 q4
      clear hp q0 q1 q2 q3 hc
      have hz := g5.size
      go_wp2_with fail
      refine (mod_any ka 5 _ q4.1 (by omega) (by omega)).mono ?_
      rintro e w' ⟨rfl, rfl⟩
      have m0 : 0 ≤ ka % 5 := Int.emod_nonneg _ (by omega)
      have m1 : ka % 5 < 5 := Int.emod_lt_of_pos _ (by omega)
      go_wp2_with fail
      have oal : Only Nob wr (wr.alloc (.cells #[.int .i64 (ka % 5), .int .i64 oa, .int .i64 na, .string ta] 33)) := Only.alloc _ _ _
      have g2' := g2.other oal (fun _ _ h => h)
      have hzal := oal.size
      refine (do_any fp w2.heap.size d (ka % 5) oa na ta _ g2' (by omega) (rng_small (by omega) (by omega)) q4.2.1 q4.2.2.1 q4.2.2.2).mono ?_
      rintro e w4 ⟨rfl, p1, p2⟩
      have p2' := g3.only (g5.trans oal (fun _ _ h => h)) p2
      have hs4 := g3.grow (a := wr.alloc (.cells #[.int .i64 (ka % 5), .int .i64 oa, .int .i64 na, .string ta] 33)) (b := w4) (by omega)
      have hca := act_calls d (ka % 5) oa na ta
      generalize d.act (ka % 5) oa na ta = d4 at p1 hca
      clear e0 e1 e2 e3 q4
      go_wp2
      go_roundw
      case rel => exact ⟨k + 1, d4, _, by simp, by omega, p1, hs4, by omega, p2'⟩
      case measure => simp [intOf]; omega
    · have G2 := Lib.hid g2
      obtain ⟨hltd, fd, fr, db, rb4, hi⟩ := g2
      have hi0 := hi.other (Only.drew Nob wr) (fun _ _ h => h)
      have od := Only.drew Nob wr
      obtain ⟨c0, c1⟩ := hi.hdr.cells
      have ha0 := ha.other (g5.trans od (fun _ _ h => h)) (fun _ _ _ _ _ h => h)
      clear hl
      by_cases hk1 : k < l.length
      all_goals
        go_wp2_with fail
        go_region_held3 (fun w' => w'.cell? ⟨w2.heap.size, 0, none⟩ = some (.pointer (some ⟨db, 0, none⟩)) ∧ w'.cell? ⟨w2.heap.size, 1, none⟩ = some (.pointer (some ⟨rb4, 0, none⟩)))
          (first | exact ⟨‹_›, ‹_›⟩ | go_keep)
          (first
            | (go_at_call 29; refine (crash_any fd db d va zs _ hi0.disk ha0).mono ?_; rintro e w4 ⟨cb, rfl, -, p1, p2⟩; have hi4 := hi0.other p2 (fun _ _ h => h); obtain ⟨m0, m1⟩ := hi4.hdr.cells)
            | (go_at_call 30; refine (rcrash_any fr rb4 d va zs _ hi4.ref (ha0.other p2 (fun _ _ _ _ _ h => h))).mono ?_; rintro e w5 ⟨crb, rfl, -, p3, p4⟩; have hi5 := hi4.other p4 (fun _ _ h => h); obtain ⟨l0, l1⟩ := hi5.hdr.cells))
        obtain ⟨done1, do1⟩ := desk_any p1 p2 p3 p4
        have D1 := Lib.hid done1
        have o6 : Only Nob w5 (w5.alloc (.cells #[.pointer (some ⟨cb, 0, none⟩), .pointer (some ⟨crb, 0, none⟩)] 30)).drew := (Only.alloc Nob _ _).trans (Only.drew _ _) (fun _ _ h => h)
        have hi6 := hi5.other o6 (fun _ _ h => h)
        obtain ⟨j0, j1⟩ := hi5.hdr.cells
        have hxl5 := hi5.hdr.lt
        clear p1 p2 p3 p4 done1 m0 m1 c0 c1
        go_wp2_with fail
        go_region_held3 (fun w' => w'.cell? ⟨w2.heap.size, 0, none⟩ = some (.pointer (some ⟨db, 0, none⟩)) ∧ w'.cell? ⟨w2.heap.size, 1, none⟩ = some (.pointer (some ⟨rb4, 0, none⟩)))
          (first | exact hi10.hdr.cells | exact hi9.hdr.cells | exact hi8.hdr.cells | exact hi7.hdr.cells | exact hi6.hdr.cells | go_keep)
          (first
            | (go_at_call 30; refine (rcrash_any fr rb4 d v9 (survI n) _ hi9.ref i9).mono ?_; rintro e w10 ⟨crb2, rfl, -, p3, p4⟩; have hi10 := hi9.other p4 (fun _ _ h => h))
            | (go_at_call 31; refine (survive_any n _ hn).mono ?_; rintro e w9 ⟨v9, rfl, i9, o9, -⟩; have hi9 := hi8.other o9 (fun _ _ h => h))
            | (go_at_call 29; refine (crash_any fd db d v7 (survI n) _ hi7.disk i7).mono ?_; rintro e w8 ⟨cb2, rfl, -, p1, p2⟩; have hi8 := hi7.other p2 (fun _ _ h => h))
            | (go_at_call 31; refine (survive_any n _ hn).mono ?_; rintro e w7 ⟨v7, rfl, i7, o7, -⟩; have hi7 := hi6.other o7 (fun _ _ h => h)))
        have z9 := o9.size
        have z10 := p4.size
        have o810 := o9.trans p4 (fun _ _ h => h)
        obtain ⟨done2, do2⟩ := desk_any p1 p2 (p3.mono (fun k hk => by rcases hk with h | ⟨h, h2⟩; exact .inl h; exact .inr ⟨by omega, h2⟩) (grow_lt (fun _ h => h.elim) o810.size)) o810
        have oA : Only Nob (w5.alloc (.cells #[.pointer (some ⟨cb, 0, none⟩), .pointer (some ⟨crb, 0, none⟩)] 30)) (w10.alloc (.cells #[.pointer (some ⟨cb2, 0, none⟩), .pointer (some ⟨crb2, 0, none⟩)] 30)) :=
          (Only.drew Nob _).trans (o7.trans do2 (fun _ _ h => h)) (fun _ _ h => h)
        have hi11 := hi10.other (Only.alloc Nob w10 (.cells #[.pointer (some ⟨cb2, 0, none⟩), .pointer (some ⟨crb2, 0, none⟩)] 30)) (fun _ _ h => h)
        have hD1 := D1.out.other oA (fun _ _ h => h)
        have hD0 : DeskAt _ _ w2.heap.size d := G2.out.other (od.trans (do1.trans oA (fun _ _ h => h)) (fun _ _ h => h)) (fun _ _ h => h)
        clear p1 p2 p3 p4 hi5 hi6 hi7 hi8 hi9 hi10 hi11 l0 l1 j0 j1
        go_wp2_with fail
        refine (same_any _ _ _ _ hD1).mono ?_
        rintro e w12 ⟨rfl, o12⟩
        have hD2 := done2.other o12 (fun _ _ h => h)
        have hD02 := hD0.other o12 (fun _ _ h => h)
        go_wp2_with fail
        refine (same_any _ _ _ _ hD2).mono ?_
        rintro e w13 ⟨rfl, o13⟩
        have hD03 := hD02.other o13 (fun _ _ h => h)
        go_wp2_with fail
        refine (same_any _ _ _ _ hD03).mono ?_
        rintro e w14 ⟨rfl, o14⟩
        go_wp2
        go_ret
        exact ⟨rfl, g5.trans (od.trans (do1.trans (oA.trans (o12.trans (o13.trans o14 (fun _ _ h => h)) (fun _ _ h => h)) (fun _ _ h => h)) (fun _ _ h => h)) (fun _ _ h => h)) (fun _ _ h => h)⟩
end Go.Proofs.Ytdpebdghhgojaaa
