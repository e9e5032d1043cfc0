/- The reference's disk in memory, with the same states, and the walks of its small calls. -/
import Derived.Test.YtdpebdghhgojaaaRPut
import Derived.Test.YtdpebdghhgojaaaCrash
namespace Go.Proofs.Ytdpebdghhgojaaa
open Go.RowKit

def str (l : List UInt8) : Value := .string ⟨l.toArray⟩

/-- The six cells of a reference's disk. -/
def RHdr (w : World) (b : Nat) (vp : Value) (d : DS) (l : Int) : Prop :=
  w.heap[b]? = some (.cells #[.string ⟨d.now.toArray⟩, .string ⟨d.syn.toArray⟩, vp, .int .i64 d.calls, .int .i64 l, .bool d.fail] 85 (0, 0))

theorem RHdr.cells {w : World} {b : Nat} {vp : Value} {d : DS} {l : Int} (h : RHdr w b vp d l) :
    w.cell? ⟨b, 0, none⟩ = some (.string ⟨d.now.toArray⟩) ∧ w.cell? ⟨b, 1, none⟩ = some (.string ⟨d.syn.toArray⟩) ∧ w.cell? ⟨b, 2, none⟩ = some vp ∧ w.cell? ⟨b, 3, none⟩ = some (.int .i64 d.calls) ∧ w.cell? ⟨b, 4, none⟩ = some (.int .i64 l) ∧ w.cell? ⟨b, 5, none⟩ = some (.bool d.fail) := by
  unfold RHdr at h
  simp [World.cell?, h]
theorem RHdr.free {w : World} {b : Nat} {vp : Value} {d : DS} {l : Int} (h : RHdr w b vp d l) (i : Nat) : w.frozen? ⟨b, i, none⟩ = false := by
  unfold RHdr at h
  simp [World.frozen?, h]
theorem RHdr.lt {w : World} {b : Nat} {vp : Value} {d : DS} {l : Int} (h : RHdr w b vp d l) : b < w.heap.size := lt_of_heap h
theorem RHdr.other {S : Nat → Prop} {w w' : World} {b : Nat} {vp : Value} {d : DS} {l : Int} (h : RHdr w b vp d l) (ho : Only S w w') (hn : ¬ S b) : RHdr w' b vp d l := (ho.block b h.lt hn).trans h
theorem RHdr.set {w : World} {b i : Nat} {v : Value} {cs : Array Value} (h : w.heap[b]? = some (.cells cs 85 (0, 0))) : (w.setCell ⟨b, i, none⟩ v).heap[b]? = some (.cells (cs.setIfInBounds i v) 85 (0, 0)) :=
  heap_setCell_same w b i cs 85 v h

/-- The cells of the reference's parts. -/
def rcells (l : List (Nat × List UInt8)) : List Value := l.flatMap fun p => [.int .i64 p.1, .string ⟨p.2.toArray⟩]
theorem rcells_snoc (l : List (Nat × List UInt8)) (p : Nat × List UInt8) : rcells (l ++ [p]) = rcells l ++ [.int .i64 p.1, .string ⟨p.2.toArray⟩] := by simp [rcells]
theorem rcells_at : ∀ (l : List (Nat × List UInt8)) (k : Nat) (h : k < l.length), (rcells l)[k * 2]? = some (.int .i64 l[k].1) ∧ (rcells l)[k * 2 + 1]? = some (.string ⟨l[k].2.toArray⟩)
  | [], _, h => by simp at h
  | p :: l, k, h => by
    cases k with
    | zero => simp [rcells]
    | succ k =>
      obtain ⟨i1, i2⟩ := rcells_at l k (by simpa using h)
      simp only [rcells] at i1 i2
      simp only [rcells, List.flatMap_cons, show (k + 1) * 2 = k * 2 + 1 + 1 by omega, List.cons_append, List.nil_append, List.getElem?_cons_succ, List.getElem_cons_succ]
      exact ⟨i1, i2⟩

structure RCore (w : World) (fp : Nat → Prop) (b : Nat) (vp : Value) (d : DS) (l : Int) : Prop where
  hdr : RHdr w b vp d l
  pcs : w.ownsRow 0 92 2 vp d.pcs.length (rcells d.pcs)
  hb : fp b
  ap : ∀ k, Blk vp k → fp k ∧ k ≠ b
  left : d.fail = true → l = d.left

structure RefAt (w : World) (fp : Nat → Prop) (b : Nat) (d : DS) : Prop where
  lt : ∀ k, fp k → k < w.heap.size
  ok : d.Ok
  ex : ∃ vp l, RCore w fp b vp d l

theorem RCore.other {S fp : Nat → Prop} {w w' : World} {b : Nat} {vp : Value} {d : DS} {l : Int} (h : RCore w fp b vp d l) (ho : Only S w w') (hn : ∀ k, fp k → ¬ S k) : RCore w' fp b vp d l :=
  ⟨h.hdr.other ho (hn b h.hb), Own.other h.pcs ho (fun k hk => hn k (h.ap k hk).1), h.hb, h.ap, h.left⟩
theorem RCore.mono {fp fp' : Nat → Prop} {w : World} {b : Nat} {vp : Value} {d : DS} {l : Int} (h : RCore w fp b vp d l) (hs : ∀ k, fp k → fp' k) : RCore w fp' b vp d l :=
  ⟨h.hdr, h.pcs, hs _ h.hb, fun k hk => ⟨hs _ (h.ap k hk).1, (h.ap k hk).2⟩, h.left⟩
theorem RCore.head {fp : Nat → Prop} {w w' : World} {b : Nat} {vp : Value} {d d' : DS} {l l' : Int} (h : RCore w fp b vp d l) (ho : Only (Is b) w w') (hh : RHdr w' b vp d' l') (e3 : d'.pcs = d.pcs) (hl : d'.fail = true → l' = d'.left) : RCore w' fp b vp d' l' :=
  ⟨hh, by rw [e3]; exact Own.other h.pcs ho (fun k hk => (h.ap k hk).2), h.hb, h.ap, hl⟩

theorem DiskAt.other {S fp : Nat → Prop} {w w' : World} {b : Nat} {d : DS} (h : DiskAt w fp b d) (ho : Only S w w') (hn : ∀ k, fp k → ¬ S k) : DiskAt w' fp b d := by
  obtain ⟨h1, h2, vn, vs, vp, vts, h3⟩ := h
  exact ⟨fun k hk => Nat.lt_of_lt_of_le (h1 k hk) ho.size, h2, vn, vs, vp, vts, h3.other ho hn⟩
theorem RefAt.other {S fp : Nat → Prop} {w w' : World} {b : Nat} {d : DS} (h : RefAt w fp b d) (ho : Only S w w') (hn : ∀ k, fp k → ¬ S k) : RefAt w' fp b d := by
  obtain ⟨h1, h2, vp, l, h3⟩ := h
  exact ⟨fun k hk => Nat.lt_of_lt_of_le (h1 k hk) ho.size, h2, vp, l, h3.other ho hn⟩

/-- What a call on a reference's disk leaves. -/
def RPost (fp : Nat → Prop) (b : Nat) (d : DS) (r : Value) (w : World) (e : Ending) (w' : World) : Prop :=
  e = .returned r ∧ RefAt w' (grow fp w w') b d ∧ Only fp w w'

def RNewPost (d : DS) (w : World) (e : Ending) (w' : World) : Prop :=
  ∃ b, e = .returned (.pointer (some ⟨b, 0, none⟩)) ∧ w.heap.size ≤ b ∧ RefAt w' (grow Nob w w') b d ∧ Only Nob w w'

theorem rnew_any (w : World) : Calls Try.prog 21 #[] w (RNewPost .new w) := by
  go_enter Try.func21, Try.ntmps21
  go_wp2
  go_ret
  have hl : (w.alloc (.cells #[.string ⟨#[]⟩, .string ⟨#[]⟩, .slice none 0 0, .int .i64 0, .int .i64 0, .bool false] 85)).heap[w.heap.size]? = some (.cells #[.string ⟨#[]⟩, .string ⟨#[]⟩, .slice none 0 0, .int .i64 0, .int .i64 0, .bool false] 85 (0, 0)) := heap_alloc_new w _
  refine ⟨w.heap.size, rfl, Nat.le_refl _, ⟨grow_lt (fun _ h => h.elim) (by simp), ⟨by decide, by decide, by decide, by decide, (fun h => by cases h), (fun _ h => by cases h)⟩, .slice none 0 0, 0, hl, World.ownsRow_nil _ _ _ _, .inr ⟨Nat.le_refl _, by simp⟩, (fun k hk => by simp [Blk, Value.ownBlock] at hk), (fun h => by cases h)⟩, Only.alloc _ _ _⟩

theorem rsize_any (fp : Nat → Prop) (b : Nat) (d : DS) (w : World) (hd : RefAt w fp b d) : Calls Try.prog 24 #[.pointer (some ⟨b, 0, none⟩)] w fun e w' => e = .returned (.int .i64 d.now.length) ∧ w = w' := by
  obtain ⟨_, _, vp, l, hc⟩ := hd
  obtain ⟨c0, _, _, _, _, _⟩ := hc.hdr.cells
  go_enter Try.func24, Try.ntmps24
  go_wp2
  go_ret
  exact ⟨by simp, rfl⟩

theorem rcalls_any (fp : Nat → Prop) (b : Nat) (d : DS) (w : World) (hd : RefAt w fp b d) : Calls Try.prog 26 #[.pointer (some ⟨b, 0, none⟩)] w fun e w' => e = .returned (.int .i64 d.calls) ∧ w = w' := by
  obtain ⟨_, _, vp, l, hc⟩ := hd
  obtain ⟨_, _, _, c3, _, _⟩ := hc.hdr.cells
  go_enter Try.func26, Try.ntmps26
  go_wp2
  go_ret
  exact ⟨rfl, rfl⟩

theorem rfail_any (fp : Nat → Prop) (b : Nat) (d : DS) (after : Int) (w : World) (hd : RefAt w fp b d) (h2 : after ≤ 9223372036854775807) : Calls Try.prog 50 #[.pointer (some ⟨b, 0, none⟩), .int .i64 after] w (RPost fp b (d.failed after) (.tuple #[]) w) := by
  obtain ⟨hlt, hok, vp, l, hc⟩ := hd
  have hf := hc.hdr.free
  obtain ⟨_, _, _, _, c4, c5⟩ := hc.hdr.cells
  go_enter Try.func50, Try.ntmps50
  go_wp2
  go_end0
  have h1 := RHdr.set (i := 5) (v := .bool (decide (0 ≤ after))) hc.hdr
  have h3 := RHdr.set (i := 4) (v := .int .i64 after) h1
  have ho : Only (Is b) w ((w.setCell ⟨b, 5, none⟩ (.bool (decide (0 ≤ after)))).setCell ⟨b, 4, none⟩ (.int .i64 after)) :=
    (Only.setCell (S := Is b) w ⟨b, 5, none⟩ _ rfl).trans (Only.setCell (S := Is b) _ ⟨b, 4, none⟩ _ rfl) (fun _ _ h => h)
  have e : decide (0 ≤ after) = decide (-1 < after) := decide_eq_decide.2 (by omega)
  have hc' := hc.head (d' := d.failed after) (l' := after) ho (by rw [e] at h3 ⊢; simpa [RHdr, DS.failed] using h3) rfl (fun _ => rfl)
  refine ⟨rfl, ⟨grow_lt hlt ho.size, ⟨hok.now, hok.syn, hok.pcs, hok.calls, fun hx => ?_, hok.each⟩, _, _, hc'.mono (fun k h => .inl h)⟩, ho.mono (fun k _ hk => hk ▸ hc.hb)⟩
  have : -1 < after := of_decide_eq_true hx
  exact ⟨show 0 ≤ after by omega, h2⟩

theorem roff_off (fp : Nat → Prop) (b : Nat) (vp : Value) (d : DS) (l : Int) (w : World) (hc : RCore w fp b vp d l) (ho : d.off = true) :
    Calls Try.prog 57 #[.pointer (some ⟨b, 0, none⟩)] w fun e w' => e = .returned (.bool true) ∧ w = w' := by
  obtain ⟨_, _, _, _, c4, c5⟩ := hc.hdr.cells
  have hl := hc.left
  obtain ⟨now, syn, pcs, calls, fail, left⟩ := d
  simp only [DS.off, Bool.and_eq_true, beq_iff_eq] at ho c4 c5 hl
  obtain ⟨rfl, rfl⟩ := ho
  rw [hl rfl] at c4
  clear hl
  go_enter Try.func57, Try.ntmps57
  go_wp2
  go_ret
  exact ⟨rfl, rfl⟩

def ROffPost (fp : Nat → Prop) (b : Nat) (vp : Value) (d : DS) (w : World) (e : Ending) (w' : World) : Prop :=
  e = .returned (.bool false) ∧ (∃ l, RCore w' fp b vp d.tick l) ∧ Only (Is b) w w'

theorem roff_on (fp : Nat → Prop) (b : Nat) (vp : Value) (d : DS) (l : Int) (w : World) (hc : RCore w fp b vp d l) (hok : d.Ok) (ho : d.off = false) :
    Calls Try.prog 57 #[.pointer (some ⟨b, 0, none⟩)] w (ROffPost fp b vp d w) := by
  obtain ⟨_, _, _, c3, c4, c5⟩ := hc.hdr.cells
  have hf := hc.hdr.free
  have hcl := hok.calls
  have hl := hok.left
  cases hfail : d.fail
  · rw [hfail] at c5
    have hd : Hid (d.fail = false) := hfail
    have hC := Lib.hid hc
    clear hok ho hl hfail hc
    go_enter Try.func57, Try.ntmps57
    go_wp2
    go_ret
    have hc := hC.out
    have h1 := RHdr.set (i := 4) (v := .int .i64 (wrap64 (l - 1))) hc.hdr
    have h2 := RHdr.set (i := 3) (v := .int .i64 (↑d.calls + 1)) h1
    have ho : Only (Is b) w ((w.setCell ⟨b, 4, none⟩ (.int .i64 (wrap64 (l - 1)))).setCell ⟨b, 3, none⟩ (.int .i64 (↑d.calls + 1))) :=
      (Only.setCell (S := Is b) w ⟨b, 4, none⟩ _ rfl).trans (Only.setCell (S := Is b) _ ⟨b, 3, none⟩ _ rfl) (fun _ _ h => h)
    exact ⟨rfl, ⟨_, hc.head (d' := d.tick) (l' := wrap64 (l - 1)) ho (by simpa [RHdr, DS.tick, hd.out] using h2) rfl (fun h => by have : d.fail = true := h; rw [hd.out] at this; cases this)⟩, ho⟩
  · rw [hfail] at c5
    obtain ⟨l0, l1⟩ := hl hfail
    obtain rfl := hc.left hfail
    have hne : (d.left == 0) = false := by simpa [DS.off, hfail] using ho
    have hpos : 1 ≤ d.left := by
      rw [beq_eq_false_iff_ne] at hne
      omega
    have hd : Hid (d.fail = true) := hfail
    have hC := Lib.hid hc
    clear hok ho hl hfail hc
    go_enter Try.func57, Try.ntmps57
    go_wp2
    go_ret
    have hc := hC.out
    have h1 := RHdr.set (i := 4) (v := .int .i64 (d.left - 1)) hc.hdr
    have h2 := RHdr.set (i := 3) (v := .int .i64 (↑d.calls + 1)) h1
    have ho : Only (Is b) w ((w.setCell ⟨b, 4, none⟩ (.int .i64 (d.left - 1))).setCell ⟨b, 3, none⟩ (.int .i64 (↑d.calls + 1))) :=
      (Only.setCell (S := Is b) w ⟨b, 4, none⟩ _ rfl).trans (Only.setCell (S := Is b) _ ⟨b, 3, none⟩ _ rfl) (fun _ _ h => h)
    exact ⟨rfl, ⟨_, hc.head (d' := d.tick) (l' := d.left - 1) ho (by simpa [RHdr, DS.tick, hd.out] using h2) rfl (fun _ => by simp [DS.tick, hd.out])⟩, ho⟩
end Go.Proofs.Ytdpebdghhgojaaa
