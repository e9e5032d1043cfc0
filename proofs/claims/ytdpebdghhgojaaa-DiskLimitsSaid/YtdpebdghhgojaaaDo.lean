/- The desk: the walks of do for Fail and Crash, of same, and the whole of do. -/
import Derived.Test.YtdpebdghhgojaaaDesk
import Derived.Deep.RegionLaw
namespace Go.Proofs.Ytdpebdghhgojaaa
open Go.RowKit

set_option maxRecDepth 100000 in
set_option maxHeartbeats 1000000 in
theorem do_fail (fp : Nat → Prop) (x : Nat) (d : DS) (k off n : Int) (t : ByteArray) (w : World) (hd : DeskAt w fp x d) (hk : Rng k) (hn : Rng n) (h4 : k % 8 = 6) :
    Calls Try.prog 22 #[.pointer (some ⟨x, 0, none⟩), .agg #[.int .i64 k, .int .i64 off, .int .i64 n, .string t]] w (DoPost fp x (d.failed (n % 9 - 1)) w) := by
  obtain ⟨hlt, fd, fr, db, rb, hi⟩ := hd
  have oa : Only Nob w (w.alloc (.cells #[.int .i64 k, .int .i64 off, .int .i64 n, .string t] 33)) := Only.alloc _ _ _
  have hi0 := hi.other oa (fun _ _ h => h)
  obtain ⟨c0, c1⟩ := hi.hdr.cells
  have hxl := hi.hdr.lt
  have g0 : 0 ≤ n % 9 := Int.emod_nonneg _ (by omega)
  have g1 : n % 9 < 9 := Int.emod_lt_of_pos _ (by omega)
  go_enter Try.func22, Try.ntmps22
  go_wp2_with fail
  refine (mod_any k 8 _ hk (by omega) (by omega)).mono ?_
  rintro e w' ⟨rfl, rfl⟩
  go_wp2_with fail
  refine (mod_any n 9 _ hn (by omega) (by omega)).mono ?_
  rintro e w' ⟨rfl, rfl⟩
  go_wp2_with fail
  refine (fail_any fd db d _ _ hi0.disk (by omega)).mono ?_
  rintro e w2 ⟨rfl, p1, p2⟩
  obtain ⟨hr2, hh2⟩ := hi0.mid p2
  obtain ⟨e0, e1⟩ := hh2.cells
  go_wp2_with fail
  refine (rfail_any fr rb d _ _ hr2 (by omega)).mono ?_
  rintro e w3 ⟨rfl, p3, p4⟩
  go_wp2
  go_ret
  exact ⟨rfl, hi0.both hlt oa p1 p2 p3 p4⟩

theorem crash_fin {fp fd fr : Nat → Prop} {w w0 w1 w2 w3 w4 w5 : World} {x db rb nb rb' : Nat} {d d' : DS} (hi : DeskIn w fp fd fr x db rb d) (hlt : ∀ k, fp k → k < w.heap.size) (oa : Only Nob w w0) (o1 : Only Nob w0 w1)
    (p1 : DiskAt w2 (grow Nob w1 w2) nb d') (p2 : Only Nob w1 w2) (s3 : Only (Is x) w2 w3) (o4 : Only Nob w3 w4) (p3 : RefAt w5 (grow Nob w4 w5) rb' d') (p4 : Only Nob w4 w5) (hh : DeskHdr w5 x nb rb) :
    DeskAt (w5.setCell ⟨x, 1, none⟩ (.pointer (some ⟨rb', 0, none⟩))) (grow fp w (w5.setCell ⟨x, 1, none⟩ (.pointer (some ⟨rb', 0, none⟩)))) x d' ∧ Only fp w (w5.setCell ⟨x, 1, none⟩ (.pointer (some ⟨rb', 0, none⟩))) := by
  have s6 : Only (Is x) w5 (w5.setCell ⟨x, 1, none⟩ (.pointer (some ⟨rb', 0, none⟩))) := Only.setCell _ _ _ rfl
  have z0 := oa.size
  have z1 := o1.size
  have z2 := p2.size
  have z3 := s3.size
  have z4 := o4.size
  have z5 := p4.size
  have hxl := hi.hdr.lt
  have e : ∀ {a b : World}, Only Nob a b → Only fp a b := fun h => h.mono (fun _ _ h => h.elim)
  have e' : ∀ {a b : World}, Only (Is x) a b → Only fp a b := fun h => h.mono (fun k _ hk => by have : k = x := hk; rw [this]; exact hi.hx)
  have oall : Only fp w (w5.setCell ⟨x, 1, none⟩ (.pointer (some ⟨rb', 0, none⟩))) :=
    (e oa).trans ((e o1).trans ((e p2).trans ((e' s3).trans ((e o4).trans ((e p4).trans (e' s6) (fun _ _ h => h)) (fun _ _ h => h)) (fun _ _ h => h)) (fun _ _ h => h)) (fun _ _ h => h)) (fun _ _ h => h)
  have hne1 : ∀ k, grow Nob w1 w2 k → ¬ Is x k := fun k hk hx => by rcases hk with hk | ⟨hk, _⟩; exact hk; have : k = x := hx; omega
  have hne2 : ∀ k, grow Nob w4 w5 k → ¬ Is x k := fun k hk hx => by rcases hk with hk | ⟨hk, _⟩; exact hk; have : k = x := hx; omega
  have sz : (w5.setCell ⟨x, 1, none⟩ (.pointer (some ⟨rb', 0, none⟩))).heap.size = w5.heap.size := by simp
  refine ⟨⟨grow_lt hlt oall.size, grow Nob w1 w2, grow Nob w4 w5, nb, rb', heap_setCell_same w5 x 1 _ 30 _ hh, (((p1.other s3 hne1).other o4 (fun _ _ h => h)).other p4 (fun _ _ h => h)).other s6 hne1, p3.other s6 hne2, .inl hi.hx, ?_, ?_⟩, oall⟩
  · rintro k (hk | ⟨hk, hk2⟩)
    · exact hk.elim
    · exact ⟨.inr ⟨by omega, by rw [sz]; omega⟩, by omega⟩
  · rintro k (hk | ⟨hk, hk2⟩)
    · exact hk.elim
    · refine ⟨.inr ⟨by omega, by rw [sz]; omega⟩, by omega, ?_⟩
      rintro (hx | ⟨_, hx⟩)
      · exact hx
      · omega

set_option maxRecDepth 100000 in
set_option maxHeartbeats 1000000 in
theorem do_crash (fp : Nat → Prop) (x : Nat) (d : DS) (k off n : Int) (t : ByteArray) (w : World) (hd : DeskAt w fp x d) (hk : Rng k) (hn : Rng n) (h4 : k % 8 = 7) :
    Calls Try.prog 22 #[.pointer (some ⟨x, 0, none⟩), .agg #[.int .i64 k, .int .i64 off, .int .i64 n, .string t]] w (DoPost fp x (d.crashed (survI n)) w) := by
  obtain ⟨hlt, fd, fr, db, rb, hi⟩ := hd
  have oa : Only Nob w (w.alloc (.cells #[.int .i64 k, .int .i64 off, .int .i64 n, .string t] 33)).drew := (Only.alloc Nob w _).trans (Only.drew Nob _) (fun _ _ h => h)
  have hi0 := hi.other oa (fun _ _ h => h)
  have ha0 := act_new w k off n t hi.hdr
  obtain ⟨c0, c1⟩ := hi.hdr.cells
  have hxl := hi.hdr.lt
  have hf := hi.hdr.free
  go_enter Try.func22, Try.ntmps22
  go_wp2_with fail
  refine (mod_any k 8 _ hk (by omega) (by omega)).mono ?_
  rintro e w' ⟨rfl, rfl⟩
  go_wp2_with fail
  go_region_law (first
    | (go_simp; go_at_call 29; refine (crash_any fd db d v1 (survI n) _ hi1.disk i1).mono ?_; rintro e w2 ⟨nb, rfl, hnb, p1, p2⟩; have ha2 := ha1.other p2 (fun h => h) (fun h => h); obtain ⟨m0, m1, _, _, m4, _⟩ := ha2.cells; have mf := ha2.hdr.free)
    | (go_simp; go_at_call 31; refine (survive_any n _ hn).mono ?_; rintro e w1 ⟨v1, rfl, i1, o1, b1⟩; have ha1 := ha0.other o1 (fun h => h) (fun h => h); have hi1 := hi0.other o1 (fun _ _ h => h); obtain ⟨l0, l1, _, _, l4, _⟩ := ha1.cells; have lf := ha1.hdr.free))
  all_goals
    have ha3 : ActIn (w2.setCell ⟨x, 0, none⟩ (.pointer (some ⟨nb, 0, none⟩))).drew x nb rb w.heap.size k off n t :=
      ⟨heap_setCell_same w2 x 0 _ 30 _ ha2.hdr, (heap_setCell_other w2 _ _ _ (by show w.heap.size ≠ x; omega)).trans ha2.act⟩
    have s3 : Only (Is x) w2 (w2.setCell ⟨x, 0, none⟩ (.pointer (some ⟨nb, 0, none⟩))).drew := (Only.setCell (S := Is x) w2 ⟨x, 0, none⟩ _ rfl).trans (Only.drew _ _) (fun _ _ h => h)
    have hr3 : RefAt (w2.setCell ⟨x, 0, none⟩ (.pointer (some ⟨nb, 0, none⟩))).drew fr rb d := ((hi1.ref.other p2 (fun _ _ h => h))).other s3 (fun k hk hx => (hi.ar k hk).2.1 hx)
    have z1 := o1.size
    have z2 := p2.size
    have hxl1 : x < w1.heap.size := hi1.hdr.lt
    have hnx : nb ≠ x := by omega
    have hd3 : DiskAt (w2.setCell ⟨x, 0, none⟩ (.pointer (some ⟨nb, 0, none⟩))).drew (grow Nob w1 w2) nb (d.crashed (survI n)) := p1.other s3 (fun k hk hx => by rcases hk with hk | ⟨hk, _⟩; exact hk; have : k = x := hx; omega)
    clear l0 l1 l4 lf c0 c1 hf m0 m4 m1
    obtain ⟨q0, q1, _, _, q4, _⟩ := ha3.cells
    have qf := ha3.hdr.free
    go_wp2_with fail
    go_region_law (first
      | (go_simp; go_at_call 30; refine (rcrash_any fr rb d v4 (survI n) _ hr4 i4).mono ?_; rintro e w5 ⟨rb', rfl, hrb, p3, p4⟩; have ha5 := ha4.other p4 (fun h => h) (fun h => h); obtain ⟨m0, m1, _, _, m4, _⟩ := ha5.cells; have mf := ha5.hdr.free)
      | (go_simp; go_at_call 31; refine (survive_any n _ hn).mono ?_; rintro e w4 ⟨v4, rfl, i4, o4, b4⟩; have ha4 := ha3.other o4 (fun h => h) (fun h => h); have hr4 := hr3.other o4 (fun _ _ h => h); obtain ⟨l0, l1, _, _, l4, _⟩ := ha4.cells; have lf := ha4.hdr.free))
    all_goals
      have hx5 : DeskHdr w5 x nb rb := ha5.hdr
      have hx6 := (DeskHdr.cells (heap_setCell_same w5 x 1 _ 30 (.pointer (some ⟨rb', 0, none⟩)) ha5.hdr : DeskHdr (w5.setCell ⟨x, 1, none⟩ (.pointer (some ⟨rb', 0, none⟩))) x nb rb')).1
      go_wp2
      go_ret
      exact ⟨rfl, crash_fin hi hlt oa o1 p1 p2 s3 o4 p3 p4 hx5⟩

/-- What an act makes of the state. -/
def DS.act (d : DS) (k off n : Int) (t : ByteArray) : DS :=
  if k % 8 = 4 then d.sy else if k % 8 = 5 then d else if k % 8 = 6 then d.failed (n % 9 - 1) else if k % 8 = 7 then d.crashed (survI n) else d.wr (whereI off) (longS t n).data.toList

theorem do_any (fp : Nat → Prop) (x : Nat) (d : DS) (k off n : Int) (t : ByteArray) (w : World) (hd : DeskAt w fp x d) (hcl : d.calls < 100000) (hk : Rng k) (ho : Rng off) (hn : Rng n) (ht : t.size ≤ 9223372036854775807) :
    Calls Try.prog 22 #[.pointer (some ⟨x, 0, none⟩), .agg #[.int .i64 k, .int .i64 off, .int .i64 n, .string t]] w (DoPost fp x (d.act k off n t) w) := by
  have g0 : 0 ≤ k % 8 := Int.emod_nonneg _ (by omega)
  have g1 : k % 8 < 8 := Int.emod_lt_of_pos _ (by omega)
  unfold DS.act
  by_cases h4 : k % 8 = 4
  · rw [if_pos h4]; exact do_sync fp x d k off n t w hd hcl hk h4
  rw [if_neg h4]
  by_cases h5 : k % 8 = 5
  · rw [if_pos h5]; exact do_read fp x d k off n t w hd hk ho hn h5
  rw [if_neg h5]
  by_cases h6 : k % 8 = 6
  · rw [if_pos h6]; exact do_fail fp x d k off n t w hd hk hn h6
  rw [if_neg h6]
  by_cases h7 : k % 8 = 7
  · rw [if_pos h7]; exact do_crash fp x d k off n t w hd hk hn h7
  rw [if_neg h7]
  exact do_write fp x d k off n t w hd hcl hk ho hn ht (by omega)

end Go.Proofs.Ytdpebdghhgojaaa
