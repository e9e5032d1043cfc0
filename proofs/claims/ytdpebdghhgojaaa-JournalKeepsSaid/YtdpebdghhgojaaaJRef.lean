/- The reference's journal: in memory, and the walks of its calls. -/
import Derived.Test.YtdpebdghhgojaaaJMem
import Derived.Deep.RegionHeld3
namespace Go.Proofs.Ytdpebdghhgojaaa
open Go.RowKit

theorem SV_one (l : List (List UInt8)) : ∀ u ∈ l.map SV, u.oneCell' = true := by
  intro u hu
  obtain ⟨r, _, rfl⟩ := List.mem_map.1 hu
  rfl

/-- append of one row of strings to another one. -/
theorem run_append_srow (w : World) (va vb : Value) (a b : List (List UInt8)) (ha : Srow w va a) (hb : Srow w vb b) (hs : a.length + b.length ≤ 1000000000) :
    ∃ v' w', (Builtin.append_ #[64, 64] 64 #[va, vb]).run Try.prog w = .ok v' w' ∧ Srow w' v' (a ++ b) ∧ Only (Blk va) w w' ∧ ∀ k, Blk v' k → Blk va k ∨ w.heap.size ≤ k := by
  obtain ⟨i0, hi, hz0, hz1, hz2⟩ := info_parts Try.info9
  rcases hb.2 with ⟨rfl, h0⟩ | ⟨g, cap, cur, rfl, _, hg, hnc, hcm, hcs, ht⟩
  · obtain rfl : b = [] := List.eq_nil_of_length_eq_zero h0
    have hr := run_append_owned_none (P := Try.prog) (w := w) 0 64 64 9 i0 1 Try.underlying64 hi va a.length (a.map SV) ha
    exact ⟨va, w, hr, by rw [List.append_nil]; exact ha, Only.refl _ _, fun k hk => .inl hk⟩
  · obtain ⟨v', w', hr, h1, h2, h3, _⟩ := run_append_own_f (P := Try.prog) w 64 64 9 i0 _ 1 16 Try.underlying64 hi hz0 hz1 hz2 rfl (by decide) va a.length (a.map SV) ha ⟨g, 0, none⟩ b.length cap (b.map SV) (by simp) (by
      intro j u hj
      rw [addr_add0, cell_of_row w g j cur 9 _ hg]
      rw [← ht, List.getElem?_take] at hj
      split at hj
      · simpa using hj
      · cases hj) (SV_one b) (by unfold maxLen; omega) (by omega)
    refine ⟨v', w', hr, ?_, Only.grown h2 (fun k hk => hk), h3⟩
    rw [← List.map_append, ← List.length_append] at h1
    exact h1

structure RS where
  L : List (List UInt8)
  maybe : List (List UInt8)
  broken : Bool
  bytes : Nat

/-- The reference's journal at block rb, all of it in the blocks fp. -/
structure RIn (w : World) (fp : Nat → Prop) (rb : Nat) (vL vM : Value) (rs : RS) : Prop where
  hdr : w.heap[rb]? = some (.cells #[vL, vM, .bool rs.broken, .int .i64 rs.bytes] 74 (0, 0))
  rL : Srow w vL rs.L
  rM : Srow w vM rs.maybe
  hb : fp rb
  bL : ∀ k, Blk vL k → fp k ∧ k ≠ rb
  bM : ∀ k, Blk vM k → fp k ∧ k ≠ rb ∧ ¬ Blk vL k
  lt : ∀ k, fp k → k < w.heap.size

def RJ (w : World) (fp : Nat → Prop) (rb : Nat) (rs : RS) : Prop := ∃ vL vM, RIn w fp rb vL vM rs

theorem RIn.other {S fp : Nat → Prop} {w w' : World} {rb : Nat} {vL vM : Value} {rs : RS} (h : RIn w fp rb vL vM rs) (ho : Only S w w') (hn : ∀ k, fp k → ¬ S k) : RIn w' fp rb vL vM rs :=
  ⟨(ho.block _ (lt_of_heap h.hdr) (hn _ h.hb)).trans h.hdr, h.rL.other ho (fun k hk => hn k (h.bL k hk).1), h.rM.other ho (fun k hk => hn k (h.bM k hk).1), h.hb, h.bL, h.bM, fun k hk => Nat.lt_of_lt_of_le (h.lt k hk) ho.size⟩
theorem RJ.other {S fp : Nat → Prop} {w w' : World} {rb : Nat} {rs : RS} (h : RJ w fp rb rs) (ho : Only S w w') (hn : ∀ k, fp k → ¬ S k) : RJ w' fp rb rs := by
  obtain ⟨vL, vM, h⟩ := h
  exact ⟨vL, vM, h.other ho hn⟩
theorem RIn.cells {fp : Nat → Prop} {w : World} {rb : Nat} {vL vM : Value} {rs : RS} (h : RIn w fp rb vL vM rs) : w.cell? ⟨rb, 0, none⟩ = some vL ∧ w.cell? ⟨rb, 1, none⟩ = some vM ∧ w.cell? ⟨rb, 2, none⟩ = some (.bool rs.broken) ∧ w.cell? ⟨rb, 3, none⟩ = some (.int .i64 rs.bytes) ∧ ∀ i, w.frozen? ⟨rb, i, none⟩ = false := by
  have := h.hdr
  simp [World.cell?, World.frozen?, this]

def RJPost (fp : Nat → Prop) (rb : Nat) (rs : RS) (v : Value) (w : World) (e : Ending) (w' : World) : Prop := e = .returned v ∧ RJ w' (grow fp w w') rb rs ∧ Only fp w w'

/-- A list of the reference's journal was appended to, and the slice stored. -/
theorem rin_setM {fp : Nat → Prop} {w w3 : World} {rb : Nat} {vL vM vM' : Value} {L M : List (List UInt8)} {b : Bool} {n : Nat} {i : Nat} (hi : i = 1) (hlt : ∀ k, fp k → k < w.heap.size) (hz : w.heap.size ≤ w3.heap.size)
    (hdr : w3.heap[rb]? = some (.cells #[vL, vM, .bool b, .int .i64 n] 74 (0, 0))) (rL : Srow w3 vL L) (rM : Srow w3 vM' M) (hb : fp rb) (bL : ∀ k, Blk vL k → fp k ∧ k ≠ rb) (bM : ∀ k, Blk vM k → fp k ∧ k ≠ rb ∧ ¬ Blk vL k) (fr : ∀ k, Blk vM' k → Blk vM k ∨ w.heap.size ≤ k) :
    RIn (w3.setCell ⟨rb, i, none⟩ vM') (grow fp w (w3.setCell ⟨rb, i, none⟩ vM')) rb vL vM' ⟨L, M, b, n⟩ := by
  subst hi
  have hrb := hlt _ hb
  have o : Only (Is rb) w3 (w3.setCell ⟨rb, 1, none⟩ vM') := Only.setCell _ _ _ rfl
  have hs : (w3.setCell ⟨rb, 1, none⟩ vM').heap.size = w3.heap.size := by simp
  have hLl : ∀ k, Blk vL k → k < w.heap.size := fun k hk => hlt _ (bL k hk).1
  have hMne : ∀ k, Blk vM' k → k ≠ rb ∧ ¬ Blk vL k := fun k hk => by
    rcases fr k hk with h | h
    · exact ⟨(bM k h).2.1, (bM k h).2.2⟩
    · exact ⟨by omega, fun hL => by have := hLl k hL; omega⟩
  refine ⟨heap_setCell_same w3 rb 1 _ 74 _ hdr, rL.other o (fun k hk => (bL k hk).2), rM.other o (fun k hk => (hMne k hk).1), .inl hb, fun k hk => ⟨.inl (bL k hk).1, (bL k hk).2⟩, fun k hk => ⟨?_, hMne k hk⟩, grow_lt hlt (by omega)⟩
  rcases fr k hk with h | h
  · exact .inl (bM k h).1
  · exact .inr ⟨h, by rw [hs]; exact rM.lt hk⟩

theorem rin_setL {fp : Nat → Prop} {w w3 : World} {rb : Nat} {vL vM vL' : Value} {L M : List (List UInt8)} {b : Bool} {n : Nat} (hlt : ∀ k, fp k → k < w.heap.size) (hz : w.heap.size ≤ w3.heap.size)
    (hdr : w3.heap[rb]? = some (.cells #[vL, vM, .bool b, .int .i64 n] 74 (0, 0))) (rL : Srow w3 vL' L) (rM : Srow w3 vM M) (hb : fp rb) (bL : ∀ k, Blk vL k → fp k ∧ k ≠ rb) (bM : ∀ k, Blk vM k → fp k ∧ k ≠ rb ∧ ¬ Blk vL k) (fr : ∀ k, Blk vL' k → Blk vL k ∨ w.heap.size ≤ k) :
    RIn (w3.setCell ⟨rb, 0, none⟩ vL') (grow fp w (w3.setCell ⟨rb, 0, none⟩ vL')) rb vL' vM ⟨L, M, b, n⟩ := by
  have hrb := hlt _ hb
  have o : Only (Is rb) w3 (w3.setCell ⟨rb, 0, none⟩ vL') := Only.setCell _ _ _ rfl
  have hs : (w3.setCell ⟨rb, 0, none⟩ vL').heap.size = w3.heap.size := by simp
  have hMl : ∀ k, Blk vM k → k < w.heap.size := fun k hk => hlt _ (bM k hk).1
  have hLne : ∀ k, Blk vL' k → k ≠ rb := fun k hk => by
    rcases fr k hk with h | h
    · exact (bL k h).2
    · omega
  refine ⟨heap_setCell_same w3 rb 0 _ 74 _ hdr, rL.other o (fun k hk => hLne k hk), rM.other o (fun k hk => (bM k hk).2.1), .inl hb, fun k hk => ⟨?_, hLne k hk⟩, fun k hk => ⟨.inl (bM k hk).1, (bM k hk).2.1, fun hL => ?_⟩, grow_lt hlt (by omega)⟩
  · rcases fr k hk with h | h
    · exact .inl (bL k h).1
    · exact .inr ⟨h, by rw [hs]; exact rL.lt hk⟩
  · rcases fr k hL with h | h
    · exact (bM k hk).2.2 h
    · have := hMl k hk; omega

theorem rin_bytes {fp : Nat → Prop} {w w3 : World} {rb : Nat} {vL vM : Value} {L M : List (List UInt8)} {b : Bool} {n : Nat} (h : RIn w3 (grow fp w w3) rb vL vM ⟨L, M, b, n⟩) (n' : Nat) :
    RIn (w3.setCell ⟨rb, 3, none⟩ (.int .i64 n')) (grow fp w (w3.setCell ⟨rb, 3, none⟩ (.int .i64 n'))) rb vL vM ⟨L, M, b, n'⟩ := by
  have o : Only (Is rb) w3 (w3.setCell ⟨rb, 3, none⟩ (.int .i64 n')) := Only.setCell _ _ _ rfl
  have hs : (w3.setCell ⟨rb, 3, none⟩ (.int .i64 n')).heap.size = w3.heap.size := by simp
  have hg : grow fp w (w3.setCell ⟨rb, 3, none⟩ (.int .i64 n')) = grow fp w w3 := by unfold grow; rw [hs]
  rw [hg]
  exact ⟨heap_setCell_same w3 rb 3 _ 74 _ h.hdr, h.rL.other o (fun k hk => (h.bL k hk).2), h.rM.other o (fun k hk => (h.bM k hk).2.1), h.hb, h.bL, h.bM, fun k hk => by rw [hs]; exact h.lt k hk⟩

theorem rnewj_any (w : World) : Calls Try.prog 41 #[] w fun e w' => e = .returned (.pointer (some ⟨w.heap.size, 0, none⟩)) ∧ RJ w' (grow Nob w w') w.heap.size ⟨[], [], false, 0⟩ ∧ Only Nob w w' := by
  go_enter Try.func41, Try.ntmps41
  go_wp2
  go_ret
  have h := heap_alloc_new w (.cells #[.slice none 0 0, .slice none 0 0, .bool false, .int .i64 0] 74)
  have o := Only.alloc Nob w (.cells #[.slice none 0 0, .slice none 0 0, .bool false, .int .i64 0] 74)
  refine ⟨rfl, ⟨.slice none 0 0, .slice none 0 0, h, Srow.nil _, Srow.nil _, .inr ⟨Nat.le_refl _, by simp⟩, fun k hk => by simp [Blk, Value.ownBlock] at hk, fun k hk => by simp [Blk, Value.ownBlock] at hk, fun k hk => ?_⟩, o⟩
  rcases hk with hk | hk
  · exact hk.elim
  · exact hk.2

theorem fits_any (fp : Nat → Prop) (rb : Nat) (rs : RS) (r : List UInt8) (w : World) (h : RJ w fp rb rs) (hb : rs.bytes ≤ 1000000000) (hr : r.length ≤ 1000000000) (c : Bool) (hc : decide (rs.bytes + r.length + 272 ≤ 16777216) = c) :
    Calls Try.prog 65 #[.pointer (some ⟨rb, 0, none⟩), SV r] w fun e w' => e = .returned (.bool c) ∧ w = w' := by
  obtain ⟨vL, vM, h⟩ := h
  obtain ⟨c0, c1, c2, c3, f⟩ := h.cells
  have HC := Lib.hid hc
  clear hc
  unfold SV
  go_enter Try.func65, Try.ntmps65
  go_wp2
  go_ret
  refine ⟨congrArg (fun b => Ending.returned (.bool b)) ?_, rfl⟩
  rw [← HC.out]
  exact decide_eq_decide.2 (by omega)

theorem rapp_broken (fp : Nat → Prop) (rb : Nat) (rs : RS) (r : List UInt8) (p : Bool) (w : World) (h : RJ w fp rb rs) (hb : rs.broken = true) :
    Calls Try.prog 44 #[.pointer (some ⟨rb, 0, none⟩), SV r, .bool p] w fun e w' => e = .returned (.int .i64 70) ∧ w = w' := by
  obtain ⟨vL, vM, h⟩ := h
  obtain ⟨c0, c1, c2, c3, f⟩ := h.cells
  rw [hb] at c2
  clear hb
  unfold SV
  go_enter Try.func44, Try.ntmps44
  go_wp2_with fail
  go_ret
  exact ⟨rfl, rfl⟩

theorem rapp_full (fp : Nat → Prop) (rb : Nat) (rs : RS) (r : List UInt8) (p : Bool) (w : World) (h : RJ w fp rb rs) (hb : rs.broken = false) (hby : rs.bytes ≤ 1000000000) (hr : r.length ≤ 1000000000) (hf : 16777216 < rs.bytes + r.length + 272) :
    Calls Try.prog 44 #[.pointer (some ⟨rb, 0, none⟩), SV r, .bool p] w fun e w' => e = .returned (.int .i64 2) ∧ w = w' := by
  have HF := Lib.hid (fits_any fp rb rs r w h hby hr false (by rw [decide_eq_false_iff_not]; omega))
  obtain ⟨vL, vM, h⟩ := h
  obtain ⟨c0, c1, c2, c3, f⟩ := h.cells
  rw [hb] at c2
  clear hb
  unfold SV at *
  go_enter Try.func44, Try.ntmps44
  go_wp2_with fail
  refine HF.out.mono ?_
  rintro e w' ⟨rfl, rfl⟩
  go_wp2_with fail
  go_ret
  exact ⟨rfl, rfl⟩

set_option maxRecDepth 100000 in
set_option maxHeartbeats 1000000 in
theorem rapp_fail (fp : Nat → Prop) (rb : Nat) (rs : RS) (r : List UInt8) (w : World) (h : RJ w fp rb rs) (hb : rs.broken = false) (hr : r.length ≤ 1000000000) (hf : rs.bytes + r.length + 272 ≤ 16777216) (hm : rs.maybe.length ≤ 100000000) :
    Calls Try.prog 44 #[.pointer (some ⟨rb, 0, none⟩), SV r, .bool false] w (RJPost fp rb { rs with broken := true, maybe := rs.maybe ++ [r] } (.int .i64 70) w) := by
  have HF := Lib.hid (fits_any fp rb rs r w h (by omega) hr true (by rw [decide_eq_true_iff]; omega))
  obtain ⟨vL, vM, h⟩ := h
  obtain ⟨c0, c1, c2, c3, f⟩ := h.cells
  rw [hb] at c2
  obtain ⟨ao, cap, rfl, _⟩ := own_form h.rM
  have hrb := lt_of_heap h.hdr
  have o1 : Only (Is rb) w (w.setCell ⟨rb, 2, none⟩ (.bool true)) := Only.setCell _ _ _ rfl
  have o2 : Only (Is rb) w ((w.setCell ⟨rb, 2, none⟩ (.bool true)).alloc (.cells #[.string ⟨r.toArray⟩] 9)) := o1.trans (Only.alloc Nob _ _) (fun _ _ h => h.elim)
  have hd2 : ((w.setCell ⟨rb, 2, none⟩ (.bool true)).alloc (.cells #[.string ⟨r.toArray⟩] 9)).heap[rb]? = some (.cells #[vL, .slice ao rs.maybe.length cap, .bool true, .int .i64 rs.bytes] 74 (0, 0)) := by
    rw [Below.heap_alloc _ _ _ (by simp; exact hrb)]
    exact heap_setCell_same w rb 2 _ 74 _ h.hdr
  have rM2 := h.rM.other o2 (fun k hk => (h.bM k hk).2.1)
  obtain ⟨g', cap', w3, hrun, hrow, oA, hfr⟩ := run_append_str ((w.setCell ⟨rb, 2, none⟩ (.bool true)).alloc (.cells #[.string ⟨r.toArray⟩] 9)) 64 _ _ rM2 (by omega) w.heap.size r (by
    have e : (w.setCell ⟨rb, 2, none⟩ (.bool true)).heap.size = w.heap.size := by simp
    rw [← e, World.cell?_alloc_new]; rfl)
  have hd3 : w3.heap[rb]? = some (.cells #[vL, .slice ao rs.maybe.length cap, .bool true, .int .i64 rs.bytes] 74 (0, 0)) := (oA.block _ (lt_of_heap hd2) (fun hk => (h.bM _ hk).2.1 rfl)).trans hd2
  have rL3 := (h.rL.other o2 (fun k hk => (h.bL k hk).2)).other oA (fun k hk hx => (h.bM k hx).2.2 hk)
  have z2 := o2.size
  have zA := oA.size
  have HF2 := Lib.hid (rin_setM (i := 1) rfl h.lt (by omega) hd3 rL3 hrow h.hb h.bL h.bM (fun k hk => by
    obtain rfl : g' = k := by simpa [Blk, Value.ownBlock] using hk
    rcases hfr with h | h
    · exact .inl h
    · right; omega))
  have HO := Lib.hid (((o2.mono (T := fp) (fun k _ hk => by obtain rfl : k = rb := hk; exact h.hb)).trans oA (fun k _ hk => (h.bM k hk).1)).trans (Only.setCell (S := fp) w3 ⟨rb, 1, none⟩ (.slice (some ⟨g', 0, none⟩) (rs.maybe.length + 1) cap') h.hb) (fun _ _ h => h))
  have q1 : w3.cell? ⟨rb, 1, none⟩ = some (.slice ao rs.maybe.length cap) := by simp [World.cell?, hd3]
  have q2 : w3.frozen? ⟨rb, 1, none⟩ = false := by simp [World.frozen?, hd3]
  clear hb c0 c3 o1 o2 hd2 rM2 hrow oA hfr hd3 rL3 z2 zA
  unfold SV at *
  go_enter Try.func44, Try.ntmps44
  go_wp2_with fail
  refine HF.out.mono ?_
  rintro e w' ⟨rfl, rfl⟩
  go_wp2_with (at_builtin; refine Lib.wpList_append_run _ rfl (.tmp 24) (.tmp 26) 64 64 rfl _ _ rfl rfl _ _ hrun ?_)
  go_ret
  exact ⟨rfl, ⟨_, _, HF2.out⟩, HO.out⟩

set_option maxRecDepth 100000 in
set_option maxHeartbeats 1000000 in
theorem rapp_ok (fp : Nat → Prop) (rb : Nat) (rs : RS) (r : List UInt8) (w : World) (h : RJ w fp rb rs) (hb : rs.broken = false) (hr : r.length ≤ 1000000000) (hf : rs.bytes + r.length + 272 ≤ 16777216) (hm : rs.L.length ≤ 100000000) :
    Calls Try.prog 44 #[.pointer (some ⟨rb, 0, none⟩), SV r, .bool true] w (RJPost fp rb ⟨rs.L ++ [r], rs.maybe, false, rs.bytes + r.length + 16⟩ (.int .i64 0) w) := by
  have HF := Lib.hid (fits_any fp rb rs r w h (by omega) hr true (by rw [decide_eq_true_iff]; omega))
  obtain ⟨vL, vM, h⟩ := h
  obtain ⟨c0, c1, c2, c3, f⟩ := h.cells
  rw [hb] at c2
  obtain ⟨ao, cap, rfl, _⟩ := own_form h.rL
  have hrb := lt_of_heap h.hdr
  have o2 : Only Nob w (w.alloc (.cells #[.string ⟨r.toArray⟩] 9)) := Only.alloc Nob _ _
  have hh := h.hdr
  rw [hb] at hh
  have hd2 := (o2.block _ hrb (fun h => h)).trans hh
  have rL2 := h.rL.other o2 (fun k hk h => h)
  obtain ⟨g', cap', w3, hrun, hrow, oA, hfr⟩ := run_append_str (w.alloc (.cells #[.string ⟨r.toArray⟩] 9)) 64 _ _ rL2 (by omega) w.heap.size r (by rw [World.cell?_alloc_new]; rfl)
  have hd3 : w3.heap[rb]? = some (.cells #[.slice ao rs.L.length cap, vM, .bool false, .int .i64 rs.bytes] 74 (0, 0)) := (oA.block _ (lt_of_heap hd2) (fun hk => (h.bL _ hk).2 rfl)).trans hd2
  have rM3 := (h.rM.other o2 (fun k hk h => h)).other oA (fun k hk hx => (h.bM k hk).2.2 hx)
  have z2 := o2.size
  have zA := oA.size
  have hF := rin_setL h.lt (by omega) hd3 hrow rM3 h.hb h.bL h.bM (fun k hk => by
    obtain rfl : g' = k := by simpa [Blk, Value.ownBlock] using hk
    rcases hfr with h | h
    · exact .inl h
    · right; omega)
  have HF2 := Lib.hid (rin_bytes hF (rs.bytes + r.length + 16))
  have HO := Lib.hid ((((o2.mono (T := fp) (fun _ _ h => h.elim)).trans oA (fun k _ hk => (h.bL k hk).1)).trans (Only.setCell (S := fp) w3 ⟨rb, 0, none⟩ (.slice (some ⟨g', 0, none⟩) (rs.L.length + 1) cap') h.hb) (fun _ _ h => h)).trans (Only.setCell (S := fp) _ ⟨rb, 3, none⟩ (.int .i64 ((rs.bytes + r.length + 16 : Nat) : Int)) h.hb) (fun _ _ h => h))
  have q1 : w3.cell? ⟨rb, 0, none⟩ = some (.slice ao rs.L.length cap) := by simp [World.cell?, hd3]
  have q2 : ∀ i, w3.frozen? ⟨rb, i, none⟩ = false := by simp [World.frozen?, hd3]
  have q3 : w3.cell? ⟨rb, 3, none⟩ = some (.int .i64 rs.bytes) := by simp [World.cell?, hd3]
  have e2 : (((rs.bytes + r.length + 16 : Nat)) : Int) = (rs.bytes : Int) + (r.length : Int) + 16 := by omega
  rw [e2] at HF2 HO
  clear hb c1 o2 hd2 rL2 hrow oA hfr hd3 rM3 z2 zA hF hh e2
  unfold SV at *
  go_enter Try.func44, Try.ntmps44
  go_wp2_with fail
  refine HF.out.mono ?_
  rintro e w' ⟨rfl, rfl⟩
  go_wp2_with (at_builtin; refine Lib.wpList_append_run _ rfl (.tmp 34) (.tmp 36) 64 64 rfl _ _ rfl rfl _ _ hrun ?_)
  go_ret
  exact ⟨rfl, ⟨_, _, HF2.out⟩, HO.out⟩

end Go.Proofs.Ytdpebdghhgojaaa
