/- The walks of the disk's small calls: add, settle, call. -/
import Derived.Test.YtdpebdghhgojaaaPut
import Derived.Test.YtdpebdghhgojaaaDisk
import Derived.Deep.RegionLaw
import Derived.BigRegion
import Derived.WalkSmall
import Derived.Lib.Hide
namespace Go.Proofs.Ytdpebdghhgojaaa
open Go.RowKit

theorem Try.info88 : (Try.prog.info? 88).map (fun i => (i.zero, i.size, i.bytes)) = some (some (.agg #[.int .i64 0, .slice none 0 0]), 2, 32) := by kernel_rfl

def AddPost (b : Nat) (vn vs vp : Value) (xs : List Value) (n : Nat) (d : DS) (w : World) (e : Ending) (w' : World) : Prop :=
  ∃ vp', e = .returned (.tuple #[]) ∧ Hdr w' b vn vs vp' d ∧ w'.ownsRow 0 88 2 vp' (n + 1) xs ∧ Only (fun k => k = b ∨ Blk vp k) w w' ∧ ∀ k, Blk vp' k → Blk vp k ∨ w.heap.size ≤ k

theorem add_end {b : Nat} {vn vs vp : Value} {d : DS} {n : Nat} {ys : List Value} {w w1 w2 : World} {g cap : Nat} {o1 o2 : Obj} (hh : Hdr w b vn vs vp d) (hne : ¬ Blk vp b) (h1 : w1.heap = ((w.alloc o1).alloc o2).heap) (hos : w1.os = w.os) (htp : w1.tape = w.tape) (hout : w1.output = w.output)
    (hown : w2.ownsRow 0 88 2 (.slice (some ⟨g, 0, none⟩) n cap) n ys) (hgr : w1.grownBy w2 vp.ownBlock) (hfr : ∀ k, (Value.slice (some ⟨g, 0, none⟩) n cap).ownBlock = some k → vp.ownBlock = some k ∨ w1.heap.size ≤ k) :
    w2.cell? ⟨b, 2, none⟩ = some vp ∧ w2.frozen? ⟨b, 2, none⟩ = false ∧ Hdr (w2.setCell ⟨b, 2, none⟩ (.slice (some ⟨g, 0, none⟩) n cap)) b vn vs (.slice (some ⟨g, 0, none⟩) n cap) d ∧ (w2.setCell ⟨b, 2, none⟩ (.slice (some ⟨g, 0, none⟩) n cap)).ownsRow 0 88 2 (.slice (some ⟨g, 0, none⟩) n cap) n ys ∧
      Only (fun k => k = b ∨ Blk vp k) w (w2.setCell ⟨b, 2, none⟩ (.slice (some ⟨g, 0, none⟩) n cap)) ∧ ∀ k, Blk (.slice (some ⟨g, 0, none⟩) n cap) k → Blk vp k ∨ w.heap.size ≤ k := by
  have hlt := hh.lt
  have hsz : w1.heap.size = w.heap.size + 2 := by rw [h1]; simp
  have o1' : Only Nob w w1 := ⟨hos, htp, hout, by omega, fun k hk _ => by rw [h1, Below.heap_alloc _ _ _ (by simp; omega), Below.heap_alloc _ _ _ hk]⟩
  have o2' : Only (Blk vp) w1 w2 := Only.grown hgr (fun k hk => hk)
  have hh2 : Hdr w2 b vn vs vp d := (hh.other o1' (fun h => h)).other o2' hne
  have hgb : g ≠ b := by
    rintro rfl
    rcases hfr g rfl with h | h
    · exact hne h
    · omega
  refine ⟨hh2.cells.2.2.1, hh2.free 2, Hdr.set hh2, ownsRow_setCell_other hown (by simp [Value.ownBlock]; exact hgb) _, ?_, ?_⟩
  · refine (o1'.mono (fun _ _ h => h.elim)).trans ((o2'.mono (T := fun k => k = b ∨ Blk vp k) (fun _ _ h => .inr h)).trans (Only.setCell _ _ _ (.inl rfl)) (fun _ _ h => h)) (fun _ _ h => h)
  · intro k hk
    rcases hfr k hk with h | h
    · exact .inl h
    · right; omega

set_option maxRecDepth 100000 in
set_option maxHeartbeats 1000000 in
theorem add_any (b : Nat) (vn vs vp x : Value) (off : Int) (d : DS) (n : Nat) (xs : List Value) (w : World) (hh : Hdr w b vn vs vp d) (hrow : w.ownsRow 0 88 2 vp n xs) (hn : n ≤ 2000000000000) (hne : ¬ Blk vp b) (hx : x.oneCell' = true) :
    Calls Try.prog 55 #[.pointer (some ⟨b, 2, none⟩), .agg #[.int .i64 off, x]] w (AddPost b vn vs vp (xs ++ [.int .i64 off, x]) n d w) := by
  obtain ⟨i0, hi, hz0, hz1, hz2⟩ := info_parts Try.info88
  obtain ⟨_, _, c2, _, _, _⟩ := hh.cells
  have hf := hh.free
  have hlt := hh.lt
  go_enter Try.func55, Try.ntmps55
  go_wp2_with fail
  go_region_law (refine step_append_own_f rfl (.tmp 8) (.tmp 10) 58 rfl 88 i0 _ 2 32 Try.underlying58 hi hz0 hz1 hz2 rfl (by decide) vp n xs (by simp [Act.eval]) ((hrow.alloc _).alloc _) ⟨w.heap.size + 1, 0, none⟩ 1 1 [.int .i64 off, x] (by simp [Act.eval]) rfl (by intro j u hj; have := cell_two_new (w.alloc (.cells #[.int .i64 off, x] 88)) (.int .i64 off) x 88 j u hj; simpa using this) (by simp [hx]; rfl) (by unfold maxLen; omega) (by omega) ?_; intro v' w' hown hgr hfr _; obtain ⟨g, cap', rfl, hle, hg⟩ := own_form_pos hown (by omega); obtain ⟨q1, q2, p⟩ := add_end (w1 := ((w.alloc (.cells #[.int .i64 off, x] 88)).alloc (.cells #[.int .i64 off, x] 88)).drew) hh hne rfl rfl rfl rfl hown hgr hfr; have P := Lib.hid p; clear p hfr hgr)
  all_goals
    go_wp2
    go_end0
    obtain ⟨p1, p2, p3, p4⟩ := P.out
    exact ⟨_, rfl, p1, p2, p3, p4⟩

def SettlePost (b : Nat) (vn vs : Value) (d : DS) (w : World) (e : Ending) (w' : World) : Prop :=
  e = .returned (.tuple #[]) ∧ Hdr w' b vn vs (.slice none 0 0) d ∧ Only (Is b) w w'

theorem settle_any (b : Nat) (vn vs vp : Value) (d : DS) (w : World) (hh : Hdr w b vn vs vp d) :
    Calls Try.prog 56 #[.pointer (some ⟨b, 2, none⟩)] w (SettlePost b vn vs d w) := by
  obtain ⟨_, _, c2, _, _, _⟩ := hh.cells
  have hf := hh.free
  go_enter Try.func56, Try.ntmps56
  go_wp2
  go_end0
  exact ⟨rfl, Hdr.set hh, Only.setCell _ _ _ rfl⟩

def CallPost (b : Nat) (vn vs vp : Value) (d : DS) (w : World) (e : Ending) (w' : World) : Prop :=
  e = .returned (.int .i64 0) ∧ Hdr w' b vn vs vp d.tick ∧ Only (Is b) w w'

theorem call_off (b : Nat) (vn vs vp : Value) (d : DS) (w : World) (hh : Hdr w b vn vs vp d) (ho : d.off = true) :
    Calls Try.prog 54 #[.pointer (some ⟨b, 0, none⟩)] w fun e w' => e = .returned (.int .i64 70) ∧ w = w' := by
  obtain ⟨_, _, _, _, c4, c5⟩ := hh.cells
  have hf := hh.free
  obtain ⟨now, syn, pcs, calls, fail, left⟩ := d
  simp only [DS.off, Bool.and_eq_true, beq_iff_eq] at ho c4 c5
  obtain ⟨rfl, rfl⟩ := ho
  go_enter Try.func54, Try.ntmps54
  go_wp2
  go_ret
  exact ⟨rfl, rfl⟩

theorem call_on (b : Nat) (vn vs vp : Value) (d : DS) (w : World) (hh : Hdr w b vn vs vp d) (hok : d.Ok) (ho : d.off = false) :
    Calls Try.prog 54 #[.pointer (some ⟨b, 0, none⟩)] w (CallPost b vn vs vp d w) := by
  obtain ⟨_, _, _, c3, c4, c5⟩ := hh.cells
  have hf := hh.free
  have hc := hok.calls
  have hl := hok.left
  cases hfail : d.fail
  · rw [hfail] at c4
    have hd : Hid (d.fail = false) := hfail
    have hD := Lib.hid hok
    clear hok ho hl hfail
    go_enter Try.func54, Try.ntmps54
    go_wp2
    go_ret
    refine ⟨rfl, ?_, Only.setCell _ _ _ rfl⟩
    have := Hdr.set (i := 3) (v := .int .i64 (↑d.calls + 1)) hh
    simpa [Hdr, DS.tick, hd.out] using this
  · rw [hfail] at c4
    obtain ⟨l0, l1⟩ := hl hfail
    have hne : (d.left == 0) = false := by simpa [DS.off, hfail] using ho
    have hpos : 1 ≤ d.left := by
      rw [beq_eq_false_iff_ne] at hne
      omega
    have hd : Hid (d.fail = true) := hfail
    have hD := Lib.hid hok
    clear hok ho hl hfail
    go_enter Try.func54, Try.ntmps54
    go_wp2
    go_ret
    refine ⟨rfl, ?_, (Only.setCell (S := Is b) w ⟨b, 5, none⟩ _ rfl).trans (Only.setCell (S := Is b) _ ⟨b, 3, none⟩ _ rfl) (fun _ _ h => h)⟩
    have h1 := Hdr.set (i := 5) (v := .int .i64 (d.left - 1)) hh
    have h2 := Hdr.set (i := 3) (v := .int .i64 (↑d.calls + 1)) h1
    simpa [Hdr, DS.tick, hd.out] using h2
end Go.Proofs.Ytdpebdghhgojaaa
