/- The desk: a disk and its model, with one state; the walks of do and same. -/
import Derived.Test.YtdpebdghhgojaaaAll
import Derived.Deep.RegionHeld3
namespace Go.Proofs.Ytdpebdghhgojaaa
open Go.RowKit

def DeskHdr (w : World) (x db rb : Nat) : Prop := w.heap[x]? = some (.cells #[.pointer (some ⟨db, 0, none⟩), .pointer (some ⟨rb, 0, none⟩)] 30 (0, 0))

structure DeskIn (w : World) (fp fd fr : Nat → Prop) (x db rb : Nat) (d : DS) : Prop where
  hdr : DeskHdr w x db rb
  disk : DiskAt w fd db d
  ref : RefAt w fr rb d
  hx : fp x
  ad : ∀ k, fd k → fp k ∧ k ≠ x
  ar : ∀ k, fr k → fp k ∧ k ≠ x ∧ ¬ fd k

structure DeskAt (w : World) (fp : Nat → Prop) (x : Nat) (d : DS) : Prop where
  lt : ∀ k, fp k → k < w.heap.size
  ex : ∃ fd fr db rb, DeskIn w fp fd fr x db rb d

theorem DeskHdr.cells {w : World} {x db rb : Nat} (h : DeskHdr w x db rb) : w.cell? ⟨x, 0, none⟩ = some (.pointer (some ⟨db, 0, none⟩)) ∧ w.cell? ⟨x, 1, none⟩ = some (.pointer (some ⟨rb, 0, none⟩)) := by
  unfold DeskHdr at h
  simp [World.cell?, h]
theorem DeskHdr.free {w : World} {x db rb : Nat} (h : DeskHdr w x db rb) (i : Nat) : w.frozen? ⟨x, i, none⟩ = false := by
  unfold DeskHdr at h
  simp [World.frozen?, h]
theorem DeskHdr.lt {w : World} {x db rb : Nat} (h : DeskHdr w x db rb) : x < w.heap.size := lt_of_heap h
theorem DeskHdr.other {S : Nat → Prop} {w w' : World} {x db rb : Nat} (h : DeskHdr w x db rb) (ho : Only S w w') (hn : ¬ S x) : DeskHdr w' x db rb := (ho.block x h.lt hn).trans h

/-- The six cells that a call of do reads: the desk's two, and those of the act. -/
structure ActIn (w : World) (x db rb bx : Nat) (k off n : Int) (t : ByteArray) : Prop where
  hdr : DeskHdr w x db rb
  act : w.heap[bx]? = some (.cells #[.int .i64 k, .int .i64 off, .int .i64 n, .string t] 33 (0, 0))

theorem ActIn.cells {w : World} {x db rb bx : Nat} {k off n : Int} {t : ByteArray} (h : ActIn w x db rb bx k off n t) :
    w.cell? ⟨x, 0, none⟩ = some (.pointer (some ⟨db, 0, none⟩)) ∧ w.cell? ⟨x, 1, none⟩ = some (.pointer (some ⟨rb, 0, none⟩)) ∧ w.cell? ⟨bx, 0, none⟩ = some (.int .i64 k) ∧ w.cell? ⟨bx, 1, none⟩ = some (.int .i64 off) ∧ w.cell? ⟨bx, 2, none⟩ = some (.int .i64 n) ∧ w.cell? ⟨bx, 3, none⟩ = some (.string t) :=
  ⟨h.hdr.cells.1, h.hdr.cells.2, by simp [World.cell?, h.act], by simp [World.cell?, h.act], by simp [World.cell?, h.act], by simp [World.cell?, h.act]⟩
theorem ActIn.other {S : Nat → Prop} {w w' : World} {x db rb bx : Nat} {k off n : Int} {t : ByteArray} (h : ActIn w x db rb bx k off n t) (ho : Only S w w') (h1 : ¬ S x) (h2 : ¬ S bx) : ActIn w' x db rb bx k off n t :=
  ⟨h.hdr.other ho h1, (ho.block bx (lt_of_heap h.act) h2).trans h.act⟩

def DoPost (fp : Nat → Prop) (x : Nat) (d' : DS) (w : World) (e : Ending) (w' : World) : Prop :=
  e = .returned (.bool true) ∧ DeskAt w' (grow fp w w') x d' ∧ Only fp w w'

theorem DeskIn.other {S fp fd fr : Nat → Prop} {w w' : World} {x db rb : Nat} {d : DS} (h : DeskIn w fp fd fr x db rb d) (ho : Only S w w') (hn : ∀ k, fp k → ¬ S k) : DeskIn w' fp fd fr x db rb d :=
  ⟨h.hdr.other ho (hn x h.hx), h.disk.other ho (fun k hk => hn k (h.ad k hk).1), h.ref.other ho (fun k hk => hn k (h.ar k hk).1), h.hx, h.ad, h.ar⟩

theorem DeskAt.other {S fp : Nat → Prop} {w w' : World} {x : Nat} {d : DS} (h : DeskAt w fp x d) (ho : Only S w w') (hn : ∀ k, fp k → ¬ S k) : DeskAt w' fp x d := by
  obtain ⟨h1, fd, fr, db, rb, h2⟩ := h
  exact ⟨fun k hk => Nat.lt_of_lt_of_le (h1 k hk) ho.size, fd, fr, db, rb, h2.other ho hn⟩

/-- Behind a call on the disk the desk's block and the reference are as they were. -/
theorem DeskIn.mid {fp fd fr : Nat → Prop} {w w2 : World} {x db rb : Nat} {d : DS} (h : DeskIn w fp fd fr x db rb d) (p2 : Only fd w w2) : RefAt w2 fr rb d ∧ DeskHdr w2 x db rb :=
  ⟨h.ref.other p2 (fun k hk hx => (h.ar k hk).2.2 hx), h.hdr.other p2 (fun hx => (h.ad _ hx).2 rfl)⟩

/-- A call on the disk, and the same one on the reference. -/
theorem DeskIn.both {fp fd fr : Nat → Prop} {w0 w w2 w3 : World} {x db rb : Nat} {d d' : DS} (h : DeskIn w fp fd fr x db rb d) (hlt : ∀ k, fp k → k < w0.heap.size) (h0 : Only Nob w0 w)
    (p1 : DiskAt w2 (grow fd w w2) db d') (p2 : Only fd w w2) (p3 : RefAt w3 (grow fr w2 w3) rb d') (p4 : Only fr w2 w3) : DeskAt w3 (grow fp w0 w3) x d' ∧ Only fp w0 w3 := by
  have s0 := h0.size
  have s2 := p2.size
  have s4 := p4.size
  have hfr : ∀ k, fr k → k < w.heap.size := fun k hk => h.ref.lt k hk
  have hfd : ∀ k, fd k → k < w.heap.size := fun k hk => h.disk.lt k hk
  have hxl := h.hdr.lt
  have oA : Only fp w0 w3 := (h0.mono (T := fp) (fun _ _ x => x.elim)).trans ((p2.mono (T := fp) (fun k _ hk => (h.ad k hk).1)).trans (p4.mono (T := fp) (fun k _ hk => (h.ar k hk).1)) (fun _ _ h => h)) (fun _ _ h => h)
  refine ⟨⟨grow_lt hlt oA.size, grow fd w w2, grow fr w2 w3, db, rb, (h.mid p2).2.other p4 (fun hx => (h.ar _ hx).2.1 rfl), p1.other p4 ?_, p3, .inl h.hx, ?_, ?_⟩, oA⟩
  · rintro k (hk | ⟨hk, _⟩) hx
    · exact (h.ar k hx).2.2 hk
    · have := hfr k hx; omega
  · rintro k (hk | ⟨hk, hk2⟩)
    · exact ⟨.inl (h.ad k hk).1, (h.ad k hk).2⟩
    · exact ⟨.inr ⟨by omega, by omega⟩, by omega⟩
  · rintro k (hk | ⟨hk, hk2⟩)
    · refine ⟨.inl (h.ar k hk).1, (h.ar k hk).2.1, ?_⟩
      rintro (hx | ⟨hx, _⟩)
      · exact (h.ar k hk).2.2 hx
      · have := hfr k hk; omega
    · refine ⟨.inr ⟨by omega, hk2⟩, by omega, ?_⟩
      rintro (hx | ⟨_, hx⟩)
      · have := hfd k hx; omega
      · omega

set_option maxRecDepth 100000 in
set_option maxHeartbeats 1000000 in
theorem do_sync (fp : Nat → Prop) (x : Nat) (d : DS) (k off n : Int) (t : ByteArray) (w : World) (hd : DeskAt w fp x d) (hcl : d.calls < 100000) (hk : Rng k) (h4 : k % 8 = 4) :
    Calls Try.prog 22 #[.pointer (some ⟨x, 0, none⟩), .agg #[.int .i64 k, .int .i64 off, .int .i64 n, .string t]] w (DoPost fp x d.sy w) := by
  obtain ⟨hlt, fd, fr, db, rb, hi⟩ := hd
  have oa : Only Nob w (w.alloc (.cells #[.int .i64 k, .int .i64 off, .int .i64 n, .string t] 33)).drew := (Only.alloc Nob w _).trans (Only.drew Nob _) (fun _ _ h => h)
  have hi0 := hi.other oa (fun _ _ h => h)
  obtain ⟨c0, c1⟩ := hi.hdr.cells
  have hxl := hi.hdr.lt
  go_enter Try.func22, Try.ntmps22
  go_wp2_with fail
  refine (mod_any k 8 _ hk (by omega) (by omega)).mono ?_
  rintro e w' ⟨rfl, rfl⟩
  go_wp2_with fail
  go_region_held3 (fun w' => w'.cell? ⟨x, 0, none⟩ = some (.pointer (some ⟨db, 0, none⟩)) ∧ w'.cell? ⟨x, 1, none⟩ = some (.pointer (some ⟨rb, 0, none⟩)))
    (first | exact ⟨‹_›, ‹_›⟩ | go_keep)
    (first
      | (go_at_call 34; refine (sync_all fd db d _ hi0.disk hcl).mono ?_; rintro e w2 ⟨rfl, p1, p2⟩; obtain ⟨hr2, hh2⟩ := hi0.mid p2; obtain ⟨e0, e1⟩ := hh2.cells)
      | (go_at_call 48; refine (rsync_all fr rb d _ hr2 hcl).mono ?_; rintro e w3 ⟨rfl, p3, p4⟩; have hh3 := hh2.other p4 (fun hx => (hi0.ar _ hx).2.1 rfl); obtain ⟨m0, m1⟩ := hh3.cells))
  go_wp2
  go_ret
  exact ⟨by simp, hi0.both hlt oa p1 p2 p3 p4⟩
theorem act_new (w : World) (k off n : Int) (t : ByteArray) {x db rb : Nat} (h : DeskHdr w x db rb) : ActIn (w.alloc (.cells #[.int .i64 k, .int .i64 off, .int .i64 n, .string t] 33)).drew x db rb w.heap.size k off n t :=
  ⟨h.other ((Only.alloc Nob w _).trans (Only.drew Nob _) (fun _ _ h => h)) (fun h => h), heap_alloc_new w _⟩

theorem whereI_rng {off : Int} (h : Rng off) : Rng (whereI off) := by
  unfold whereI Rng at *
  by_cases h1 : off < 0 ∨ 16777216 < off
  · rw [if_pos h1]; exact h
  · rw [if_neg h1]
    have := Int.emod_nonneg off (show (300 : Int) ≠ 0 by omega)
    have := Int.emod_lt_of_pos off (show (0 : Int) < 300 by omega)
    omega

set_option maxRecDepth 100000 in
set_option maxHeartbeats 1000000 in
theorem do_read (fp : Nat → Prop) (x : Nat) (d : DS) (k off n : Int) (t : ByteArray) (w : World) (hd : DeskAt w fp x d) (hk : Rng k) (ho : Rng off) (hn : Rng n) (h4 : k % 8 = 5) :
    Calls Try.prog 22 #[.pointer (some ⟨x, 0, none⟩), .agg #[.int .i64 k, .int .i64 off, .int .i64 n, .string t]] w (DoPost fp x d w) := by
  obtain ⟨hlt, fd, fr, db, rb, hi⟩ := hd
  have oa : Only Nob w (w.alloc (.cells #[.int .i64 k, .int .i64 off, .int .i64 n, .string t] 33)).drew := (Only.alloc Nob w _).trans (Only.drew Nob _) (fun _ _ h => h)
  have hi0 := hi.other oa (fun _ _ h => h)
  have ha0 := act_new w k off n t hi.hdr
  obtain ⟨c0, c1⟩ := hi.hdr.cells
  have hxl := hi.hdr.lt
  go_enter Try.func22, Try.ntmps22
  go_wp2_with fail
  refine (mod_any k 8 _ hk (by omega) (by omega)).mono ?_
  rintro e w' ⟨rfl, rfl⟩
  go_wp2_with fail
  go_region_held3 (fun w' => w'.cell? ⟨x, 0, none⟩ = some (.pointer (some ⟨db, 0, none⟩)) ∧ w'.cell? ⟨x, 1, none⟩ = some (.pointer (some ⟨rb, 0, none⟩)) ∧ w'.cell? ⟨w.heap.size, 0, none⟩ = some (.int .i64 k) ∧ w'.cell? ⟨w.heap.size, 1, none⟩ = some (.int .i64 off) ∧ w'.cell? ⟨w.heap.size, 2, none⟩ = some (.int .i64 n) ∧ w'.cell? ⟨w.heap.size, 3, none⟩ = some (.string t))
    (first | exact ha4.cells | exact ha3.cells | exact ha2.cells | exact ha1.cells | exact ha0.cells | go_keep)
    (first
      | (go_at_call 37; refine (rread_all fr rb (whereI off) n d _ hi3.ref (whereI_rng ho) hn).mono ?_; rintro e w4 ⟨rfl, o4⟩; have ha4 := ha3.other o4 (fun h => h) (fun h => h); have hi4 := hi3.other o4 (fun _ _ h => h))
      | (go_at_call 49; refine (where_any k off n t _ ho).mono ?_; rintro e w3 ⟨rfl, o3⟩; have ha3 := ha2.other o3 (fun h => h) (fun h => h); have hi3 := hi2.other o3 (fun _ _ h => h))
      | (go_at_call 35; refine (read_all fd db (whereI off) n d _ hi1.disk (whereI_rng ho) hn).mono ?_; rintro e w2 ⟨rfl, o2⟩; have ha2 := ha1.other o2 (fun h => h) (fun h => h); have hi2 := hi1.other o2 (fun _ _ h => h))
      | (go_at_call 49; refine (where_any k off n t _ ho).mono ?_; rintro e w1 ⟨rfl, o1⟩; have ha1 := ha0.other o1 (fun h => h) (fun h => h); have hi1 := hi0.other o1 (fun _ _ h => h)))
  go_wp2
  go_ret
  have oall : Only Nob w w4 := oa.trans (o1.trans (o2.trans (o3.trans o4 (fun _ _ h => h)) (fun _ _ h => h)) (fun _ _ h => h)) (fun _ _ h => h)
  exact ⟨by simp, ⟨grow_lt hlt oall.size, fd, fr, db, rb, ⟨hi4.hdr, hi4.disk, hi4.ref, .inl hi4.hx, fun k hk => ⟨.inl (hi4.ad k hk).1, (hi4.ad k hk).2⟩, fun k hk => ⟨.inl (hi4.ar k hk).1, (hi4.ar k hk).2⟩⟩⟩, oall.mono (fun _ _ h => h.elim)⟩

set_option maxRecDepth 100000 in
set_option maxHeartbeats 4000000 in
theorem do_write (fp : Nat → Prop) (x : Nat) (d : DS) (k off n : Int) (t : ByteArray) (w : World) (hd : DeskAt w fp x d) (hcl : d.calls < 100000) (hk : Rng k) (ho : Rng off) (hn : Rng n) (ht : t.size ≤ 9223372036854775807) (h4 : k % 8 < 4) :
    Calls Try.prog 22 #[.pointer (some ⟨x, 0, none⟩), .agg #[.int .i64 k, .int .i64 off, .int .i64 n, .string t]] w (DoPost fp x (d.wr (whereI off) (longS t n).data.toList) w) := by
  obtain ⟨hlt, fd, fr, db, rb, hi⟩ := hd
  have oa : Only Nob w (w.alloc (.cells #[.int .i64 k, .int .i64 off, .int .i64 n, .string t] 33)).drew := (Only.alloc Nob w _).trans (Only.drew Nob _) (fun _ _ h => h)
  have hi0 := hi.other oa (fun _ _ h => h)
  have ha0 := act_new w k off n t hi.hdr
  have hls := longS_size t n
  obtain ⟨c0, c1⟩ := hi.hdr.cells
  have hxl := hi.hdr.lt
  have h80 : 0 ≤ k % 8 := Int.emod_nonneg _ (by omega)
  go_enter Try.func22, Try.ntmps22
  go_wp2_with fail
  refine (mod_any k 8 _ hk (by omega) (by omega)).mono ?_
  rintro e w' ⟨rfl, rfl⟩
  go_wp2_with fail
  go_region_held3 (fun w' => w'.cell? ⟨x, 0, none⟩ = some (.pointer (some ⟨db, 0, none⟩)) ∧ w'.cell? ⟨x, 1, none⟩ = some (.pointer (some ⟨rb, 0, none⟩)) ∧ w'.cell? ⟨w.heap.size, 0, none⟩ = some (.int .i64 k) ∧ w'.cell? ⟨w.heap.size, 1, none⟩ = some (.int .i64 off) ∧ w'.cell? ⟨w.heap.size, 2, none⟩ = some (.int .i64 n) ∧ w'.cell? ⟨w.heap.size, 3, none⟩ = some (.string t))
    (first | exact ha6.cells | exact ha5.cells | exact ha4.cells | exact ha3.cells | exact ha2.cells | exact ha1.cells | exact ha0.cells | go_keep)
    (first
      | (go_at_call 38; refine (rwrite_all fr rb (whereI off) (longS t n) d _ hr5 hcl (whereI_rng ho) (by omega)).mono ?_; rintro e w6 ⟨rfl, p3, p4⟩; have ha6 := ha5.other p4 (fun hx => (hi2.ar _ hx).2.1 rfl) (fun hx => by have := hlt _ (hi2.ar _ hx).1; omega))
      | (go_at_call 51; refine (long_any k off n t _ hn ht).mono ?_; rintro e w5 ⟨rfl, o5⟩; have ha5 := ha4.other o5 (fun h => h) (fun h => h); have hr5 := hr4.other o5 (fun _ _ h => h))
      | (go_at_call 49; refine (where_any k off n t _ ho).mono ?_; rintro e w4 ⟨rfl, o4⟩; have ha4 := ha3.other o4 (fun h => h) (fun h => h); have hr4 := hr3.other o4 (fun _ _ h => h))
      | (go_at_call 33; refine (write_all fd db (whereI off) (longS t n) d _ hi2.disk hcl (whereI_rng ho) (by omega)).mono ?_; rintro e w3 ⟨rfl, p1, p2⟩; obtain ⟨hr3, hh3⟩ := hi2.mid p2; have ha3 := ha2.other p2 (fun hx => (hi2.ad _ hx).2 rfl) (fun hx => by have := hlt _ (hi2.ad _ hx).1; omega))
      | (go_at_call 51; refine (long_any k off n t _ hn ht).mono ?_; rintro e w2 ⟨rfl, o2⟩; have ha2 := ha1.other o2 (fun h => h) (fun h => h); have hi2 := hi1.other o2 (fun _ _ h => h))
      | (go_at_call 49; refine (where_any k off n t _ ho).mono ?_; rintro e w1 ⟨rfl, o1⟩; have ha1 := ha0.other o1 (fun h => h) (fun h => h); have hi1 := hi0.other o1 (fun _ _ h => h)))
  go_wp2
  go_ret
  have z4 := o4.size
  have z5 := o5.size
  have p34 : Only fr w3 w6 := (o4.mono (fun _ _ h => h.elim)).trans ((o5.mono (fun _ _ h => h.elim)).trans p4 (fun _ _ h => h)) (fun _ _ h => h)
  have p3' : RefAt w6 (grow fr w3 w6) rb (d.wr (whereI off) (longS t n).data.toList) := p3.mono (fun k hk => by rcases hk with h | ⟨h, h2⟩; exact .inl h; exact .inr ⟨by omega, h2⟩) (grow_lt hr3.lt p34.size)
  exact ⟨by simp, hi2.both hlt (oa.trans (o1.trans o2 (fun _ _ h => h)) (fun _ _ h => h)) p1 p2 p3' p34⟩
end Go.Proofs.Ytdpebdghhgojaaa
