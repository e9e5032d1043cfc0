/- The walk of DiskSynced. -/
import Derived.Test.YtdpebdghhgojaaaOwn
import Derived.Test.YtdpebdghhgojaaaBytesLaw
namespace Go.Proofs.Ytdpebdghhgojaaa
open Go.RowKit

theorem act_zero (d : DS) (off n : Int) (t : ByteArray) : d.act 0 off n t = d.wr (whereI off) (longS t n).data.toList := rfl

/-- A small disk whose power does not fail. -/
def Small (d : DS) : Prop := d.fail = false ∧ d.now.length ≤ 300

theorem small_act {d : DS} (h : Small d) (off n : Int) (t : ByteArray) (h1 : -4 ≤ off) (h2 : off ≤ 4) : Small (d.act 0 off n t) := by
  rw [act_zero]
  unfold DS.wr
  by_cases hb : badW (whereI off) (longS t n).data.toList ∨ d.off = true
  · rw [if_pos hb]; exact h
  · rw [if_neg hb]
    refine ⟨h.1, ?_⟩
    show (put d.now (whereI off).toNat (longS t n).data.toList).length ≤ 300
    rw [length_put]
    have hl : (longS t n).data.toList.length ≤ 200 := by have := longS_size t n; simpa using this
    have hn := h.2
    have hw : (whereI off).toNat ≤ 4 := by
      unfold whereI
      by_cases h3 : off < 0 ∨ 16777216 < off
      · rw [if_pos h3]; omega
      · rw [if_neg h3, Int.emod_eq_of_lt (by omega) (by omega)]; omega
    omega

theorem read_whole (d : DS) : d.read 0 d.now.length = d.now := by
  unfold DS.read
  by_cases h : d.now.length = 0
  · rw [if_pos (.inr (by omega)), List.eq_nil_of_length_eq_zero h]
  · rw [if_neg (by omega)]
    simp

theorem read_first (d : DS) (n : Nat) (l : List UInt8) (hl : l.length = n) (h : d.now.take n = l) : d.read 0 n = l := by
  unfold DS.read
  by_cases h0 : n = 0
  · rw [if_pos (.inr (by omega)), List.eq_nil_of_length_eq_zero (by omega : l.length = 0)]
  · rw [if_neg (by omega)]
    simpa using h

def SyncedRel (x : Nat) (w : World) (iv : Value) (wr : World) : Prop :=
  ∃ (k : Nat) (d : DS) (fp : Nat → Prop), iv = .int .i64 k ∧ k ≤ 10 ∧ DeskAt wr fp x d ∧ Since w fp ∧ d.calls ≤ k ∧ Only Nob w wr ∧ Small d

set_option maxRecDepth 100000 in
set_option maxHeartbeats 4000000 in
theorem synced_walk (v : Value) (l : List Act') (t0 t1 : Int) (vq : Value) (zs : List Int) (w : World) (hl : Acts w v l) (ht0 : Rng t0) (ht1 : Rng t1) (hq : Ints w vq zs) :
    Calls Try.prog 6 #[v, .agg #[.int .i64 t0, .int .i64 t1], vq] w fun e w' => e = .returned (.bool true) ∧ Only Nob w w' := by
  obtain ⟨⟨a0, cap0, rfl⟩, hlen⟩ := acts_form hl
  have m0 : 0 ≤ t0 % 100 := Int.emod_nonneg _ (by omega)
  have m1 : t0 % 100 < 100 := Int.emod_lt_of_pos _ (by omega)
  have m2 : 0 ≤ t1 % 150 := Int.emod_nonneg _ (by omega)
  have m3 : t1 % 150 < 150 := Int.emod_lt_of_pos _ (by omega)
  have ob : Only Nob w (w.alloc (.cells #[.int .i64 t0, .int .i64 t1] 42)) := Only.alloc _ _ _
  have hP := PairAt.new w t0 t1
  have hPl := hP.lt
  go_enter Try.func6, Try.ntmps6
  go_wp2_with fail
  refine (sanity_any _).mono ?_
  rintro e w0 ⟨rfl, o0⟩
  go_wp2_with fail
  refine (new_any _).mono ?_
  rintro e w1 ⟨b, rfl, -, d1, o1, -⟩
  go_wp2_with fail
  refine (rnew_any _).mono ?_
  rintro e w2 ⟨rb, rfl, -, r2, o2⟩
  obtain ⟨hdesk, o3⟩ := desk_new d1 o1 r2 o2
  have HR : SyncedRel w2.heap.size (w.alloc (.cells #[.int .i64 t0, .int .i64 t1] 42)) (.int .i64 (0 : Nat)) (w2.alloc (.cells #[.pointer (some ⟨b, 0, none⟩), .pointer (some ⟨rb, 0, none⟩)] 30)) :=
    ⟨0, .new, _, rfl, by omega, hdesk, (Since.nob _).grow o0.size, Nat.le_refl _, o0.trans o3 (fun _ _ h => h), rfl, by decide⟩
  clear hdesk d1 r2 o1 o2 o3
  go_wp2_with fail
  go_loopw [9] (fun iv wr => SyncedRel w2.heap.size (w.alloc (.cells #[.int .i64 t0, .int .i64 t1] 42)) iv wr) (fun iv _ => 10 - (intOf iv).toNat)
  case atStart => exact HR
  case round =>
    obtain ⟨k, d, fp, rfl, g1, g2, g3, g4, g5, g6⟩ := hrel
    have gw := ob.trans g5 (fun _ _ h => h)
    clear HR
    by_cases hk : k < l.length ∧ k < 10
    · obtain ⟨hk1, hk2⟩ := hk
      obtain ⟨_, b0, off, c, hv, _, hc⟩ := hl.resolve_left (fun h => by rw [h.1] at hk1; simp at hk1)
      simp only [Value.slice.injEq, true_and] at hv
      obtain ⟨rfl, rfl⟩ := hv
      obtain ⟨_, q1, q2, q3, q4⟩ := hc k hk1
      have hb0 := World.block_lt_of_cell? w _ q1
      have e1 := (gw.cell (a := ⟨b0, off + k * 4 + 1, none⟩) hb0 (fun h => h)).trans q1
      have e2 := (gw.cell (a := ⟨b0, off + k * 4 + 2, none⟩) hb0 (fun h => h)).trans q2
      have e3 := (gw.cell (a := ⟨b0, off + k * 4 + 3, none⟩) hb0 (fun h => h)).trans q3
      obtain ⟨⟨ka, oa, na, ta⟩, hp⟩ : ∃ p, p = l[k] := ⟨_, rfl⟩
      rw [← hp] at e1 e2 e3 q4 q1 q2 q3
      have HQ := Lib.hid (And.intro q1 (And.intro q2 q3))
      clear hp q1 q2 q3 hc
      have hz := g5.size
      have k1 := Int.tmod_lt_of_pos oa (show (0 : Int) < 4 by omega)
      have k2 := Int.lt_tmod_of_pos oa (show (0 : Int) < 4 by omega)
      have od := Only.drew Nob wr
      have g2' := g2.other od (fun _ _ h => h)
      go_wp2_with fail
      go_region_held3 (fun w' => w'.cell? ⟨b0, off + k * 4 + 1, none⟩ = some (.int .i64 oa) ∧ w'.cell? ⟨b0, off + k * 4 + 2, none⟩ = some (.int .i64 na) ∧ w'.cell? ⟨b0, off + k * 4 + 3, none⟩ = some (.string ta))
        (first | exact ⟨f1, f2, f3⟩ | exact ⟨e1, e2, e3⟩ | go_keep)
        (first
          | (go_at_call 22; refine (do_any fp w2.heap.size d 0 (oa.tmod 4) na ta _ g2' (by omega) (rng_small (by omega) (by omega)) (rng_small (by omega) (by omega)) q4.2.2.1 q4.2.2.2).mono ?_; rintro e w4 ⟨rfl, p1, p2⟩; have p2' := g3.only (g5.trans od (fun _ _ h => h)) p2; have p2w := ob.trans p2' (fun _ _ h => h); have f1 := (p2w.cell (a := ⟨b0, off + k * 4 + 1, none⟩) hb0 (fun h => h)).trans HQ.out.1; have f2 := (p2w.cell (a := ⟨b0, off + k * 4 + 2, none⟩) hb0 (fun h => h)).trans HQ.out.2.1; have f3 := (p2w.cell (a := ⟨b0, off + k * 4 + 3, none⟩) hb0 (fun h => h)).trans HQ.out.2.2))
      have hs4 := g3.grow (a := wr.drew) (b := w4) (by have := od.size; omega)
      have hca := act_calls d 0 (oa.tmod 4) na ta
      have hsm := small_act g6 (oa.tmod 4) na ta (by omega) (by omega)
      generalize d.act 0 (oa.tmod 4) na ta = d4 at p1 hca hsm
      clear e1 e2 e3 q4 f1 f2 f3
      go_wp2
      go_roundw
      case rel => exact ⟨k + 1, d4, _, by simp, by omega, p1, hs4, by omega, p2', hsm⟩
      case measure => simp [intOf]; omega
    · obtain ⟨hltd, fd, fr, db, rb4, hi⟩ := g2
      clear hl
      have hsy : d.synced.fail = false ∧ d.synced.now.length ≤ 300 ∧ d.synced.calls ≤ 11 := ⟨g6.1, g6.2, by show d.calls + 1 ≤ 11; omega⟩
      have HSY := Lib.hid (⟨rfl, rfl⟩ : d.synced.pcs = [] ∧ d.synced.syn = d.synced.now)
      obtain ⟨n0, hn0⟩ := Int.eq_ofNat_of_zero_le m0
      obtain ⟨n1, hn1⟩ := Int.eq_ofNat_of_zero_le m2
      have M0 := Lib.hid <| show ∀ w, Calls Try.prog 28 #[.int .i64 t0, .int .i64 100] w fun e w' => e = .returned (.int .i64 (n0 : Nat)) ∧ w = w' from fun w => by have h := mod_any t0 100 w ht0 (by omega) (by omega); rw [hn0] at h; exact h
      have M1 := Lib.hid <| show ∀ w, Calls Try.prog 28 #[.int .i64 t1, .int .i64 150] w fun e w' => e = .returned (.int .i64 (n1 : Nat)) ∧ w = w' from fun w => by have h := mod_any t1 150 w ht1 (by omega) (by omega); rw [hn1] at h; exact h
      have hb0 : n0 < 100 ∧ n1 < 150 := ⟨by omega, by omega⟩
      have M2 : ∃ aB : ByteArray, aB.size = n1 ∧ ∀ w, Calls Try.prog 32 #[.int .u8 121, .int .i64 (n1 : Nat)] w (LongPost aB w) := ⟨⟨(List.replicate n1 121).toArray⟩, by simp [ByteArray.size], fun w => repeated_any 121 n1 w (by omega)⟩
      obtain ⟨aB, hab, M2⟩ := M2
      have M2 := Lib.hid M2
      have hab2 : aB.size ≤ 150 := by omega
      clear hab
      clear hn0 hn1 m0 m1 m2 m3
      obtain ⟨c0, c1⟩ := hi.hdr.cells
      have HA := Lib.hid hq
      clear hq
      by_cases hk1 : k < l.length
      all_goals
        go_wp2_with fail
        refine (sync_fine fd db d _ hi.disk (by omega) g6.1).mono ?_
        rintro e w4 ⟨rfl, d4, o4⟩
        have h4 := hi.hdr.other o4 (fun h => (hi.ad _ h).2 rfl)
        have a4 := g3.only g5 (o4.mono (fun k _ hk => (hi.ad k hk).1))
        obtain ⟨hsy1, hsy2, hsy3⟩ := hsy
        have HF := Lib.hid hsy1
        clear c0 c1 hsy1
        generalize d.synced = d2 at d4 HSY HF hsy2 hsy3
        obtain ⟨c0, c1⟩ := h4.cells
        go_wp2_with fail
        refine (size_any _ db d2 _ d4).mono ?_
        rintro e w' ⟨rfl, rfl⟩
        go_wp2_with fail
        refine (read_all _ db 0 d2.now.length d2 _ d4 (rng_small (by omega) (by omega)) (rng_small (by omega) (by omega))).mono ?_
        rintro e w5 ⟨rfl, o5⟩
        rw [read_whole]
        have HX := Lib.hid (show ¬ grow fd wr w4 w2.heap.size from fun h => by
          rcases h with h | ⟨h, _⟩
          · exact (hi.ad _ h).2 rfl
          · have := hi.hdr.lt; omega)
        have HY := Lib.hid (show ∀ k, grow fd wr w4 k → w.heap.size + 1 ≤ k from fun k hk => by
          rcases hk with h | ⟨h, _⟩
          · have := g3 k (hi.ad k h).1; simpa using this
          · have := g5.size; simp at this; omega)
        have HZ := Lib.hid (show ¬ grow fd wr w4 w.heap.size from fun h => by have := HY.out _ h; omega)
        have d5 := d4.other (o5.trans (Only.drew Nob _) (fun _ _ h => h)) (fun _ _ h => h)
        have h5 := h4.other (o5.trans (Only.drew Nob _) (fun _ _ h => h)) (fun h => h)
        have a5 : Only Nob (w.alloc (.cells #[.int .i64 t0, .int .i64 t1] 42)) w5.drew := (a4.trans o5 (fun _ _ h => h)).trans (Only.drew Nob _) (fun _ _ h => h)
        have hP5 := hP.other a5 (fun h => h)
        have hsum : IntKind.i64.wrap ((d2.now.length : Int) + (n0 : Nat)) = ((d2.now.length + n0 : Nat) : Int) := by
          rw [IntWalk.i64_in _ (by omega)]; omega
        obtain ⟨q2, hq2⟩ : ∃ q2 : Nat, q2 = d2.now.length + n0 := ⟨_, rfl⟩
        have hq3 : d2.now.length ≤ q2 ∧ q2 ≤ 400 := by omega
        rw [← hq2] at hsum
        clear hq2
        obtain ⟨c0', c1'⟩ := h5.cells
        obtain ⟨p0, p1⟩ := hP5
        clear c0 c1
        go_wp2_with fail
        go_region_held3 (fun w' => w'.cell? ⟨w2.heap.size, 0, none⟩ = some (.pointer (some ⟨db, 0, none⟩)) ∧ w'.cell? ⟨w.heap.size, 0, none⟩ = some (.int .i64 t0) ∧ w'.cell? ⟨w.heap.size, 1, none⟩ = some (.int .i64 t1))
          (first | exact ⟨u0, u1, u2⟩ | exact ⟨c0', p0, p1⟩ | go_keep)
          (first
            | (go_at_call 33; refine (write_fine _ db q2 aB d2 _ d6 (by omega) HF.out (by omega) (by omega)).mono ?_; rintro e w7 ⟨rfl, d7, o7⟩; have h7 := h6.other o7 (fun h => HX.out h); have u0 := h7.cells.1; have u1 := (o7.cell (World.block_lt_of_cell? _ _ s1) HZ.out).trans s1; have u2 := (o7.cell (World.block_lt_of_cell? _ _ s2) HZ.out).trans s2)
            | (go_at_call 32; refine (M2.out _).mono ?_; rintro e w6 ⟨rfl, o6⟩; have d6 := d5.other o6 (fun _ _ h => h); have h6 := h5.other o6 (fun h => h); have u0 := h6.cells.1; have u1 := (o6.cell (World.block_lt_of_cell? _ _ p0) (fun h => h)).trans p0; have u2 := (o6.cell (World.block_lt_of_cell? _ _ p1) (fun h => h)).trans p1; have s1 := u1; have s2 := u2)
            | (have mark1 := mark0; go_at_call 28; refine (M1.out _).mono ?_; rintro e w' ⟨rfl, rfl⟩)
            | (go_at_call 28; refine (M0.out _).mono ?_; rintro e w' ⟨rfl, rfl⟩; have mark0 := Lib.hid trivial))
        have a7 : Only Nob w7 w7.drew := Only.drew Nob w7
        have h8 := h7.other a7 (fun h => h)
        obtain ⟨v0, v1⟩ := h7.cells
        have z7 := o6.size
        have a67 : Only Nob (w.alloc (.cells #[.int .i64 t0, .int .i64 t1] 42)) w7 := (show Since (w.alloc (.cells #[.int .i64 t0, .int .i64 t1] 42)) (grow fd wr w4) from fun k hk => by have := HY.out k hk; simpa using this).only (a5.trans o6 (fun _ _ h => h)) o7
        have hq7 := HA.out.other (ob.trans a67 (fun _ _ h => h)) (fun _ _ _ _ _ h => h)
        go_wp2_with fail
        refine (crash_any _ db _ vq zs _ d7 hq7).mono ?_
        rintro e w8 ⟨cb, rfl, -, d8, o8⟩
        have hread : ((d2.written q2 aB.data.toList).crashed zs).read 0 d2.now.length = d2.now := by
          obtain ⟨y1, y2⟩ := HSY.out
          have hc : ((d2.written q2 aB.data.toList).crashed zs).now = crashF zs d2.now 0 (parts q2 aB.data.toList) := by
            show crashF zs d2.syn 0 (d2.pcs ++ parts q2 aB.data.toList) = _
            rw [y1, y2]; rfl
          refine read_first _ _ _ rfl ?_
          rw [hc, (crashF_prefix zs d2.now.length _ d2.now 0 (Nat.le_refl _) (fun p hp => Nat.le_trans hq3.1 (parts_ge _ _ _ (Nat.le_refl _) p hp))).1, List.take_length]
        have HR2 := Lib.hid hread
        clear hread
        go_wp2_with fail
        refine (read_all _ cb 0 d2.now.length _ _ d8 (rng_small (by omega) (by omega)) (rng_small (by omega) (by omega))).mono ?_
        rintro e w9 ⟨rfl, o9⟩
        rw [Int.toNat_natCast, HR2.out]
        go_wp2
        go_ret
        exact ⟨rfl, ob.trans (a67.trans (o8.trans o9 (fun _ _ h => h)) (fun _ _ h => h)) (fun _ _ h => h)⟩
end Go.Proofs.Ytdpebdghhgojaaa
