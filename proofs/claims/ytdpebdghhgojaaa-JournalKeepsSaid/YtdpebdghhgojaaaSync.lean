/- The walks of New, Size, Calls, Fail, Read and Sync of a disk. -/
import Derived.Test.YtdpebdghhgojaaaWrite
namespace Go.Proofs.Ytdpebdghhgojaaa
open Go.RowKit

def DS.new : DS := ⟨[], [], [], 0, false, 0⟩

theorem DiskAt.hdr {w : World} {fp : Nat → Prop} {b : Nat} {d : DS} (h : DiskAt w fp b d) : ∃ vn vs vp, Hdr w b vn vs vp d := by
  obtain ⟨_, _, vn, vs, vp, vts, hc⟩ := h
  exact ⟨vn, vs, vp, hc.hdr⟩

def NewPost (w : World) (e : Ending) (w' : World) : Prop :=
  ∃ b, e = .returned (.pointer (some ⟨b, 0, none⟩)) ∧ b = w.heap.size ∧ DiskAt w' (grow Nob w w') b .new ∧ Only Nob w w' ∧ Hdr w' b (.slice none 0 0) (.slice none 0 0) (.slice none 0 0) .new

theorem new_any (w : World) : Calls Try.prog 20 #[] w (NewPost w) := by
  go_enter Try.func20, Try.ntmps20
  go_wp2
  go_ret
  have hl : (w.alloc (.cells #[.slice none 0 0, .slice none 0 0, .slice none 0 0, .int .i64 0, .bool false, .int .i64 0] 62)).heap[w.heap.size]? = some (.cells #[.slice none 0 0, .slice none 0 0, .slice none 0 0, .int .i64 0, .bool false, .int .i64 0] 62 (0, 0)) := heap_alloc_new w _
  have hn : ∀ k, ¬ Blk (.slice none 0 0) k := fun k hk => by simp [Blk, Value.ownBlock] at hk
  refine ⟨w.heap.size, rfl, rfl, ⟨grow_lt (fun _ h => h.elim) (by simp), ⟨by decide, by decide, by decide, by decide, (fun h => by cases h), (fun _ h => by cases h)⟩, .slice none 0 0, .slice none 0 0, .slice none 0 0, [], hl, World.ownsRow_nil _ _ _ _, World.ownsRow_nil _ _ _ _, ⟨rfl, World.ownsRow_nil _ _ _ _, (fun i hi => by cases hi)⟩, .inr ⟨Nat.le_refl _, by simp⟩, fun k hk => (hn k hk).elim, fun k hk => (hn k hk).elim, fun k hk => (hn k hk).elim, (fun v hv => by cases hv)⟩, Only.alloc _ _ _, hl⟩

theorem size_any (fp : Nat → Prop) (b : Nat) (d : DS) (w : World) (hd : DiskAt w fp b d) : Calls Try.prog 23 #[.pointer (some ⟨b, 0, none⟩)] w fun e w' => e = .returned (.int .i64 d.now.length) ∧ w = w' := by
  obtain ⟨_, _, vn, vs, vp, vts, hc⟩ := hd
  obtain ⟨ao, cap, rfl, _⟩ := own_form hc.now
  obtain ⟨c0, _, _, _, _, _⟩ := hc.hdr.cells
  go_enter Try.func23, Try.ntmps23
  go_wp2
  go_ret
  exact ⟨rfl, rfl⟩

theorem calls_any (fp : Nat → Prop) (b : Nat) (d : DS) (w : World) (hd : DiskAt w fp b d) : Calls Try.prog 25 #[.pointer (some ⟨b, 0, none⟩)] w fun e w' => e = .returned (.int .i64 d.calls) ∧ w = w' := by
  obtain ⟨_, _, vn, vs, vp, vts, hc⟩ := hd
  obtain ⟨_, _, _, c3, _, _⟩ := hc.hdr.cells
  go_enter Try.func25, Try.ntmps25
  go_wp2
  go_ret
  exact ⟨rfl, rfl⟩

def DS.failed (d : DS) (after : Int) : DS := { d with fail := decide (-1 < after), left := after }

theorem fail_any (fp : Nat → Prop) (b : Nat) (d : DS) (after : Int) (w : World) (hd : DiskAt w fp b d) (h2 : after ≤ 9223372036854775807) : Calls Try.prog 36 #[.pointer (some ⟨b, 0, none⟩), .int .i64 after] w (DPost fp b (d.failed after) (.tuple #[]) w) := by
  obtain ⟨hlt, hok, vn, vs, vp, vts, hc⟩ := hd
  have hf := hc.hdr.free
  obtain ⟨_, _, _, _, c4, c5⟩ := hc.hdr.cells
  go_enter Try.func36, Try.ntmps36
  go_wp2
  go_end0
  have h1 := Hdr.set (i := 4) (v := .bool (decide (-1 < after))) hc.hdr
  have h3 := Hdr.set (i := 5) (v := .int .i64 after) h1
  have ho : Only (Is b) w ((w.setCell ⟨b, 4, none⟩ (.bool (decide (-1 < after)))).setCell ⟨b, 5, none⟩ (.int .i64 after)) :=
    (Only.setCell (S := Is b) w ⟨b, 4, none⟩ _ rfl).trans (Only.setCell (S := Is b) _ ⟨b, 5, none⟩ _ rfl) (fun _ _ h => h)
  have hc' := hc.head (d' := d.failed after) ho (by simpa [Hdr, DS.failed] using h3) rfl rfl rfl
  refine ⟨rfl, ⟨grow_lt hlt ho.size, ⟨hok.now, hok.syn, hok.pcs, hok.calls, fun hx => ?_, hok.each⟩, _, _, _, _, hc'.mono (fun k h => .inl h)⟩, ho.mono (fun k _ hk => hk ▸ hc.hb)⟩
  have : -1 < after := of_decide_eq_true hx
  exact ⟨show 0 ≤ after by omega, h2⟩

def DS.read (d : DS) (off n : Int) : List UInt8 := if off < 0 ∨ n < 1 then [] else (d.now.drop off.toNat).take n.toNat

theorem read_none (fp : Nat → Prop) (b : Nat) (d : DS) (off n : Int) (w : World) (hd : DiskAt w fp b d) (h : off < 0 ∨ n < 1 ∨ d.now.length ≤ off) (_h1 : -9223372036854775808 ≤ off) (_h2 : off ≤ 9223372036854775807) :
    Calls Try.prog 35 #[.pointer (some ⟨b, 0, none⟩), .int .i64 off, .int .i64 n] w fun e w' => e = .returned (.string ByteArray.empty) ∧ w = w' := by
  obtain ⟨_, _, vn, vs, vp, vts, hc⟩ := hd
  obtain ⟨ao, cap, rfl, _⟩ := own_form hc.now
  obtain ⟨c0, _, _, _, _, _⟩ := hc.hdr.cells
  by_cases g1 : off < 0
  · go_enter Try.func35, Try.ntmps35
    go_wp2
    go_ret
    exact ⟨rfl, rfl⟩
  by_cases g2 : n < 1
  · go_enter Try.func35, Try.ntmps35
    go_wp2
    go_ret
    exact ⟨rfl, rfl⟩
  have g3 : d.now.length ≤ off := by omega
  clear h
  go_enter Try.func35, Try.ntmps35
  go_wp2
  go_ret
  exact ⟨rfl, rfl⟩

set_option maxRecDepth 100000 in
theorem read_some (fp : Nat → Prop) (b off n : Nat) (d : DS) (w : World) (hd : DiskAt w fp b d) (h1 : 1 ≤ n) (h2 : off < d.now.length) (hn : n ≤ 9223372036854775807) :
    Calls Try.prog 35 #[.pointer (some ⟨b, 0, none⟩), .int .i64 off, .int .i64 n] w fun e w' => e = .returned (.string ⟨((d.now.drop off).take n).toArray⟩) ∧ Only Nob w w' := by
  obtain ⟨_, hok, vn, vs, vp, vts, hc⟩ := hd
  have hnow := hok.now
  obtain ⟨g, cap, rfl, _, _⟩ := own_form_pos hc.now (by omega)
  obtain ⟨c0, _, _, _, _, _⟩ := hc.hdr.cells
  have hcne : ¬ cap = off := by omega
  have hcz : ¬ cap - off = 0 := by omega
  have hconv : ∀ m : Nat, m ≤ d.now.length - off → ∀ W : World, W.heap = w.heap → (convert 56 9 (.slice (some ⟨g, off, none⟩) m (cap - off))).run Try.prog W = .ok (.string ⟨((d.now.drop off).take m).toArray⟩) W := by
    intro m hm W hW
    have := run_convert_bytes_back (P := Try.prog) W 56 9 5 ⟨g, off, none⟩ (cap - off) ((d.now.drop off).take m) Try.underlying56 Try.underlying5 Try.underlying9 (by
      intro j hj
      simp only [List.length_take, List.length_drop] at hj
      rw [show W.cell? ((⟨g, off, none⟩ : Addr).add j) = w.cell? ((⟨g, off, none⟩ : Addr).add j) from by simp [World.cell?, hW]]
      have hcl := hc.now.cells (g := g) rfl (off + j) (.int .u8 (d.now.getD (off + j) 0).toNat) (by simp [cellsB, List.getD, show off + j < d.now.length by omega])
      rw [addr_add0] at hcl
      have e : (⟨g, off, none⟩ : Addr).add j = ⟨g, off + j, none⟩ := by unfold Addr.add; split <;> simp_all
      rw [e, hcl]
      simp [List.getD, show off + j < d.now.length by omega])
    have hl : ((d.now.drop off).take m).length = m := by simp; omega
    rwa [hl] at this
  have hW : w.drew.heap = w.heap := rfl
  by_cases hm : n ≤ d.now.length - off
  · have hk := hconv n hm w.drew hW
    clear hconv
    go_enter Try.func35, Try.ntmps35
    go_wp2_with fail
    go_region
    all_goals
      go_wp2
      go_ret
      exact ⟨rfl, Only.drew _ _⟩
  · have hk := hconv (d.now.length - off) (Nat.le_refl _) w.drew hW
    clear hconv
    go_enter Try.func35, Try.ntmps35
    go_wp2_with fail
    go_region
    all_goals
      go_wp2
      go_ret
      exact ⟨congrArg (fun l : List UInt8 => Ending.returned (.string ⟨l.toArray⟩)) (show (d.now.drop off).take (d.now.length - off) = (d.now.drop off).take n from by rw [List.take_eq_take_iff, List.length_drop]; omega), Only.drew _ _⟩

theorem sync_off (fp : Nat → Prop) (b : Nat) (d : DS) (w : World) (hd : DiskAt w fp b d) (ho : d.off = true) :
    Calls Try.prog 34 #[.pointer (some ⟨b, 0, none⟩)] w fun e w' => e = .returned (.int .i64 70) ∧ w = w' := by
  obtain ⟨hlt, hok, vn, vs, vp, vts, hc⟩ := hd
  go_enter Try.func34, Try.ntmps34
  go_wp2_with (go_at_call 54; refine (call_off b vn vs vp d _ hc.hdr ho).mono ?_; rintro e w' ⟨rfl, rfl⟩)
  go_ret
  exact ⟨rfl, rfl⟩

theorem Core.settle {fp : Nat → Prop} {w w' : World} {b : Nat} {vn vs vp : Value} {vts : List Value} {d : DS} (h : Core w fp b vn vs vp vts d) (hh : Hdr w' b vn vs (.slice none 0 0) d) (ho : Only (Is b) w w') :
    Core w' fp b vn vs (.slice none 0 0) [] { d with pcs := [] } :=
  ⟨hh, h.now.other ho (fun k hk => (h.an k hk).2), h.syn.other ho (fun k hk => (h.as' k hk).2.1), ⟨rfl, World.ownsRow_nil _ _ _ _, (fun i hi => by cases hi)⟩, h.hb, h.an, h.as', fun k hk => by simp [Blk, Value.ownBlock] at hk, fun v hv => by cases hv⟩

set_option maxRecDepth 100000 in
theorem sync_on (fp : Nat → Prop) (b : Nat) (d : DS) (w : World) (hd : DiskAt w fp b d) (ho : d.off = false) (hcl : d.calls < 100000) :
    Calls Try.prog 34 #[.pointer (some ⟨b, 0, none⟩)] w (DPost fp b d.synced (.int .i64 0) w) := by
  obtain ⟨hlt, hok, vn, vs, vp, vts, hc⟩ := hd
  have hok' := Lib.hid (hok.synced hcl ho)
  have hl1 := hok.now
  go_enter Try.func34, Try.ntmps34
  go_wp2_with fail
  refine (call_on b vn vs vp d _ hc.hdr hok ho).mono ?_
  rintro e w1 ⟨rfl, hh1, ho1⟩
  have hc1 := hc.head ho1 hh1 rfl rfl rfl
  obtain ⟨ao, caps, hvs, hcap⟩ := own_form hc1.syn
  subst hvs
  obtain ⟨c0, c1, _, _, _, _⟩ := hc1.hdr.cells
  obtain ⟨v', w2, hr, hrow, ho2, hf2⟩ := run_append_row w1.drew (.slice ao 0 caps) vn [] d.now hc1.syn.cut hc1.now (by simp; omega)
  have hO2 : Only (Blk (.slice ao d.syn.length caps)) w1 w2 := ⟨ho2.os, ho2.tape, ho2.output, ho2.size, fun k hk hn => ho2.block k hk (fun x => hn (by cases ao <;> exact x))⟩
  have hF2 : ∀ k, Blk v' k → Blk (.slice ao d.syn.length caps) k ∨ w1.heap.size ≤ k := fun k hk => (hf2 k hk).imp (fun x => by cases ao <;> exact x) id
  have hh2 : Hdr w2 b vn (.slice ao d.syn.length caps) vp d.tick := hc1.hdr.other hO2 (fun x => (hc1.as' b x).2.1 rfl)
  have hc3 := hc1.setSyn hrow hO2 hF2
  obtain ⟨ao2, cap2, hv2, _⟩ := own_form hrow
  subst hv2
  obtain ⟨_, k1, _, _, _, _⟩ := hh2.cells
  have f2 := hh2.free
  have hf1 := hc1.hdr.free
  have hbl := hc1.hdr.lt
  have hw12 := hO2.size
  have h12 : Only fp w1 (w2.setCell ⟨b, 1, none⟩ (.slice ao2 d.now.length cap2)) := (hO2.mono (T := fp) (fun k _ hk => (hc1.as' k hk).1)).trans (Only.setCell _ _ _ hc.hb) (fun _ _ h => h)
  go_wp2_with fail
  go_region_law (refine step_append_run rfl (.tmp 16) (.tmp 20) 56 56 rfl _ _ (by simp [Act.eval, Act.put]) (by simp [Act.eval, Act.put]) _ _ hr ?_)
  all_goals
    go_wp2_with fail
    refine (settle_any b vn _ vp { d.tick with syn := d.now } _ hc3.hdr).mono ?_
    rintro e w4 ⟨rfl, hh4, ho4⟩
    go_wp2
    go_ret
    have hc4 := hc3.settle hh4 ho4
    have hz1 := ho1.size
    have hz4 : w2.heap.size ≤ w4.heap.size := by have := ho4.size; simpa using this
    have h14 : Only fp w w4 := (ho1.mono (T := fp) (fun k _ hk => hk ▸ hc.hb)).trans (h12.trans (ho4.mono (T := fp) (fun k _ hk => hk ▸ hc.hb)) (fun _ _ h => h)) (fun _ _ h => h)
    refine ⟨rfl, ⟨grow_lt hlt h14.size, hok'.out, _, _, _, _, hc4.mono (fun k hk => ?_)⟩, h14⟩
    rcases hk with hk | ⟨hk, hk2⟩
    · exact .inl hk
    · exact .inr ⟨by omega, by omega⟩
end Go.Proofs.Ytdpebdghhgojaaa
