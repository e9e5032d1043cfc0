/- The walk of DiskPlays. -/
import Derived.Test.YtdpebdghhgojaaaSanity
import Derived.Test.YtdpebdghhgojaaaOpen
namespace Go.Proofs.Ytdpebdghhgojaaa
open Go.RowKit

theorem wr_calls (d : DS) (off : Int) (s : List UInt8) : (d.wr off s).calls ≤ d.calls + 1 := by
  unfold DS.wr
  by_cases h : badW off s ∨ d.off = true
  · rw [if_pos h]; omega
  · rw [if_neg h]; exact Nat.le_refl _
theorem sy_calls (d : DS) : d.sy.calls ≤ d.calls + 1 := by
  unfold DS.sy
  by_cases h : d.off = true
  · rw [if_pos h]; omega
  · rw [if_neg h]; exact Nat.le_refl _
theorem act_calls (d : DS) (k off n : Int) (t : ByteArray) : (d.act k off n t).calls ≤ d.calls + 1 := by
  unfold DS.act
  by_cases h4 : k % 8 = 4
  · rw [if_pos h4]; exact sy_calls d
  rw [if_neg h4]
  by_cases h5 : k % 8 = 5
  · rw [if_pos h5]; omega
  rw [if_neg h5]
  by_cases h6 : k % 8 = 6
  · rw [if_pos h6]; exact Nat.le_succ _
  rw [if_neg h6]
  by_cases h7 : k % 8 = 7
  · rw [if_pos h7]; exact Nat.zero_le _
  rw [if_neg h7]
  exact wr_calls d _ _

/-- A desk of two new disks. -/
theorem desk_new {w0 w1 w2 : World} {b rb : Nat} (d1 : DiskAt w1 (grow Nob w0 w1) b .new) (o1 : Only Nob w0 w1) (r2 : RefAt w2 (grow Nob w1 w2) rb .new) (o2 : Only Nob w1 w2) :
    DeskAt (w2.alloc (.cells #[.pointer (some ⟨b, 0, none⟩), .pointer (some ⟨rb, 0, none⟩)] 30)) (grow Nob w0 (w2.alloc (.cells #[.pointer (some ⟨b, 0, none⟩), .pointer (some ⟨rb, 0, none⟩)] 30))) w2.heap.size .new ∧
      Only Nob w0 (w2.alloc (.cells #[.pointer (some ⟨b, 0, none⟩), .pointer (some ⟨rb, 0, none⟩)] 30)) := by
  have z1 := o1.size
  have z2 := o2.size
  have oa : Only Nob w2 (w2.alloc (.cells #[.pointer (some ⟨b, 0, none⟩), .pointer (some ⟨rb, 0, none⟩)] 30)) := Only.alloc _ _ _
  have sz : (w2.alloc (.cells #[.pointer (some ⟨b, 0, none⟩), .pointer (some ⟨rb, 0, none⟩)] 30)).heap.size = w2.heap.size + 1 := by simp
  have oall := o1.trans (o2.trans oa (fun _ _ h => h)) (fun _ _ h => h)
  refine ⟨⟨grow_lt (fun _ h => h.elim) oall.size, grow Nob w0 w1, grow Nob w1 w2, b, rb, heap_alloc_new w2 _, (d1.other o2 (fun _ _ h => h)).other oa (fun _ _ h => h), r2.other oa (fun _ _ h => h), .inr ⟨by omega, by rw [sz]; omega⟩, ?_, ?_⟩, oall⟩
  · rintro k (hk | ⟨hk, hk2⟩)
    · exact hk.elim
    · exact ⟨.inr ⟨hk, by rw [sz]; omega⟩, by omega⟩
  · rintro k (hk | ⟨hk, hk2⟩)
    · exact hk.elim
    · refine ⟨.inr ⟨by omega, by rw [sz]; omega⟩, by omega, ?_⟩
      rintro (hx | ⟨_, hx⟩)
      · exact hx
      · omega

def PlayRel (x : Nat) (w : World) (iv : Value) (wr : World) : Prop :=
  ∃ (k : Nat) (d : DS) (fp : Nat → Prop), iv = .int .i64 k ∧ k ≤ 40 ∧ DeskAt wr fp x d ∧ Since w fp ∧ d.calls ≤ k ∧ Only Nob w wr

set_option maxRecDepth 100000 in
set_option maxHeartbeats 2000000 in
theorem plays_walk (v : Value) (l : List Act') (w : World) (hl : Acts w v l) :
    Calls Try.prog 3 #[v] w fun e w' => e = .returned (.bool true) ∧ Only Nob w w' := by
  obtain ⟨a0, cap0, rfl⟩ : ∃ a0 cap0, v = .slice a0 l.length cap0 := by
    rcases hl with ⟨rfl, a, c, rfl⟩ | ⟨_, b, off, c, rfl, _⟩
    · exact ⟨a, c, rfl⟩
    · exact ⟨_, c, rfl⟩
  have hlen : l.length ≤ 9223372036854775807 := by
    rcases hl with ⟨rfl, _⟩ | ⟨_, _, _, _, _, h, _⟩
    · simp
    · exact h
  go_enter Try.func3, Try.ntmps3
  go_wp2_with fail
  refine (sanity_any _).mono ?_
  rintro e w0 ⟨rfl, o0⟩
  go_wp2_with fail
  refine (new_any _).mono ?_
  rintro e w1 ⟨b, rfl, -, d1, o1, -⟩
  go_wp2_with fail
  refine (rnew_any _).mono ?_
  rintro e w2 ⟨rb, rfl, -, r2, o2⟩
  obtain ⟨hdesk, o3⟩ := desk_new d1 o1 r2 o2
  have HR : PlayRel w2.heap.size w (.int .i64 (0 : Nat)) (w2.alloc (.cells #[.pointer (some ⟨b, 0, none⟩), .pointer (some ⟨rb, 0, none⟩)] 30)) :=
    ⟨0, .new, _, rfl, by omega, hdesk, (Since.nob w).grow o0.size, Nat.le_refl _, o0.trans o3 (fun _ _ h => h)⟩
  clear hdesk d1 r2 o1 o2 o3
  go_wp2_with fail
  go_loopw [5] (fun iv wr => PlayRel w2.heap.size w iv wr) (fun iv _ => 40 - (intOf iv).toNat)
  case atStart => exact HR
  case round =>
    obtain ⟨k, d, fp, rfl, g1, g2, g3, g4, g5⟩ := hrel
    clear HR
    by_cases hk : k < l.length ∧ k < 40
    · obtain ⟨hk1, hk2⟩ := hk
      obtain ⟨_, b0, off, c, hv, _, hc⟩ := hl.resolve_left (fun h => by rw [h.1] at hk1; simp at hk1)
      simp only [Value.slice.injEq, true_and] at hv
      obtain ⟨rfl, rfl⟩ := hv
      obtain ⟨q0, q1, q2, q3, q4⟩ := hc k hk1
      have hb0 := World.block_lt_of_cell? w _ q0
      have e0 := (g5.cell hb0 (fun h => h)).trans q0
      have e1 := (g5.cell (a := ⟨b0, off + k * 4 + 1, none⟩) hb0 (fun h => h)).trans q1
      have e2 := (g5.cell (a := ⟨b0, off + k * 4 + 2, none⟩) hb0 (fun h => h)).trans q2
      have e3 := (g5.cell (a := ⟨b0, off + k * 4 + 3, none⟩) hb0 (fun h => h)).trans q3
      obtain ⟨⟨ka, oa, na, ta⟩, hp⟩ : ∃ p, p = l[k] := ⟨_, rfl⟩
      rw [← hp] at e0 e1 e2 e3 q4
      clear hp q0 q1 q2 q3 hc
      have hz := g5.size
      go_wp2_with fail
      refine (do_any fp w2.heap.size d ka oa na ta _ g2 (by omega) q4.1 q4.2.1 q4.2.2.1 q4.2.2.2).mono ?_
      rintro e w4 ⟨rfl, p1, p2⟩
      have p2' := g3.only g5 p2
      have hs4 := g3.grow (b := w4) g5.size
      have ha := act_calls d ka oa na ta
      generalize d.act ka oa na ta = d4 at p1 ha
      have P1 := Lib.hid p1
      obtain ⟨_, fd, fr, db, rb4, hi⟩ := p1
      have hi0 := hi.other (Only.drew Nob w4) (fun _ _ h => h)
      obtain ⟨c0, c1⟩ := hi.hdr.cells
      clear e0 e1 e2 e3 q4
      go_wp2_with fail
      go_region_held3 (fun w' => w'.cell? ⟨w2.heap.size, 0, none⟩ = some (.pointer (some ⟨db, 0, none⟩)) ∧ w'.cell? ⟨w2.heap.size, 1, none⟩ = some (.pointer (some ⟨rb4, 0, none⟩)))
        (first | exact ⟨‹_›, ‹_›⟩ | go_keep)
        (first
          | (go_at_call 23; refine (size_any fd db _ _ hi0.disk).mono ?_; rintro e w' ⟨rfl, rfl⟩)
          | (go_at_call 24; refine (rsize_any fr rb4 _ _ hi0.ref).mono ?_; rintro e w' ⟨rfl, rfl⟩)
          | (go_at_call 25; refine (calls_any fd db _ _ hi0.disk).mono ?_; rintro e w' ⟨rfl, rfl⟩)
          | (go_at_call 26; refine (rcalls_any fr rb4 _ _ hi0.ref).mono ?_; rintro e w' ⟨rfl, rfl⟩))
      go_wp2
      go_roundw
      case rel => exact ⟨k + 1, d4, _, by simp, by omega, P1.out.other (Only.drew Nob w4) (fun _ _ h => h), hs4, by omega, p2'.trans (Only.drew Nob w4) (fun _ _ h => h)⟩
      case measure => simp [intOf]; omega
    · by_cases hk1 : k < l.length
      all_goals
        go_wp2_with (go_at_call 27; refine (same_any fp w2.heap.size d _ g2).mono ?_; rintro e w5 ⟨rfl, o5⟩)
        go_ret
        exact ⟨rfl, g5.trans o5 (fun _ _ h => h)⟩
end Go.Proofs.Ytdpebdghhgojaaa
