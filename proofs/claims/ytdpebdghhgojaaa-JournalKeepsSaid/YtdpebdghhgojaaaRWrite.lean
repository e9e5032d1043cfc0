/- The walks of the reference's Read, Sync, Write. -/
import Derived.Test.YtdpebdghhgojaaaRef
namespace Go.Proofs.Ytdpebdghhgojaaa
open Go.RowKit

theorem rread_none (fp : Nat → Prop) (b : Nat) (d : DS) (off n : Int) (w : World) (hd : RefAt w fp b d) (h : off < 0 ∨ n < 1 ∨ d.now.length ≤ off) (_h1 : -9223372036854775808 ≤ off) (_h2 : off ≤ 9223372036854775807) :
    Calls Try.prog 37 #[.pointer (some ⟨b, 0, none⟩), .int .i64 off, .int .i64 n] w fun e w' => e = .returned (.string ByteArray.empty) ∧ w = w' := by
  obtain ⟨_, _, vp, l, hc⟩ := hd
  obtain ⟨c0, _, _, _, _, _⟩ := hc.hdr.cells
  obtain ⟨sn, hsn⟩ : ∃ sn : ByteArray, sn = ⟨d.now.toArray⟩ := ⟨_, rfl⟩
  have hl : sn.size = d.now.length := by rw [hsn]; simp [← ByteArray.size_data]
  rw [← hsn] at c0
  rw [← hl] at h
  clear hsn hl
  by_cases g1 : off < 0
  · go_enter Try.func37, Try.ntmps37
    go_wp2
    go_ret
    exact ⟨rfl, rfl⟩
  by_cases g2 : n < 1
  · go_enter Try.func37, Try.ntmps37
    go_wp2
    go_ret
    exact ⟨rfl, rfl⟩
  have g3 : sn.size ≤ off := by omega
  clear h
  go_enter Try.func37, Try.ntmps37
  go_wp2
  go_ret
  exact ⟨rfl, rfl⟩

theorem rread_some (fp : Nat → Prop) (b off n : Nat) (d : DS) (w : World) (hd : RefAt w fp b d) (h1 : 1 ≤ n) (h2 : off < d.now.length) (hn : n ≤ 9223372036854775807) :
    Calls Try.prog 37 #[.pointer (some ⟨b, 0, none⟩), .int .i64 off, .int .i64 n] w fun e w' => e = .returned (.string ⟨((d.now.drop off).take n).toArray⟩) ∧ Only Nob w w' := by
  obtain ⟨_, hok, vp, l, hc⟩ := hd
  have hnow := hok.now
  obtain ⟨c0, _, _, _, _, _⟩ := hc.hdr.cells
  obtain ⟨sn, hsn⟩ : ∃ sn : ByteArray, sn = ⟨d.now.toArray⟩ := ⟨_, rfl⟩
  have hl : sn.size = d.now.length := by rw [hsn]; simp [← ByteArray.size_data]
  have hd : sn.data.toList = d.now := by rw [hsn]
  rw [← hsn] at c0
  rw [← hl] at h2 hnow
  rw [← hd]
  have hD := Lib.hid hl
  clear hsn hl hd
  by_cases hm : n ≤ sn.size - off
  · go_enter Try.func37, Try.ntmps37
    go_wp2_with fail
    go_region
    all_goals
      go_wp2
      go_ret
      refine ⟨congrArg (fun s => Ending.returned (.string s)) (str_eq ?_), Only.drew _ _⟩
      rw [toList_extract]
      simp
  · go_enter Try.func37, Try.ntmps37
    go_wp2_with fail
    go_region
    all_goals
      go_wp2
      go_ret
      refine ⟨congrArg (fun s => Ending.returned (.string s)) (str_eq ?_), Only.drew _ _⟩
      rw [toList_extract]
      have hll : (sn.data.toList.drop off).length = sn.size - off := by simp
      rw [List.take_of_length_le (by omega), List.take_of_length_le (by omega)]

theorem rsync_off (fp : Nat → Prop) (b : Nat) (d : DS) (w : World) (hd : RefAt w fp b d) (ho : d.off = true) :
    Calls Try.prog 48 #[.pointer (some ⟨b, 0, none⟩)] w fun e w' => e = .returned (.int .i64 70) ∧ w = w' := by
  obtain ⟨hlt, hok, vp, l, hc⟩ := hd
  go_enter Try.func48, Try.ntmps48
  go_wp2_with (go_at_call 57; refine (roff_off fp b vp d l _ hc ho).mono ?_; rintro e w' ⟨rfl, rfl⟩)
  go_ret
  exact ⟨rfl, rfl⟩

theorem rsync_on (fp : Nat → Prop) (b : Nat) (d : DS) (w : World) (hd : RefAt w fp b d) (ho : d.off = false) (hcl : d.calls < 100000) :
    Calls Try.prog 48 #[.pointer (some ⟨b, 0, none⟩)] w (RPost fp b d.synced (.int .i64 0) w) := by
  obtain ⟨hlt, hok, vp, l, hc⟩ := hd
  have hok' := Lib.hid (hok.synced hcl ho)
  go_enter Try.func48, Try.ntmps48
  go_wp2_with fail
  refine (roff_on fp b vp d l _ hc hok ho).mono ?_
  rintro e w1 ⟨rfl, ⟨l', hc1⟩, ho1⟩
  obtain ⟨c0, c1, c2, _, _, _⟩ := hc1.hdr.cells
  have hf := hc1.hdr.free
  go_wp2
  go_ret
  have h1 := RHdr.set (i := 1) (v := .string ⟨d.now.toArray⟩) hc1.hdr
  have h2 := RHdr.set (i := 2) (v := .slice none 0 0) h1
  have ho : Only (Is b) w1 ((w1.setCell ⟨b, 1, none⟩ (.string ⟨d.now.toArray⟩)).setCell ⟨b, 2, none⟩ (.slice none 0 0)) :=
    (Only.setCell (S := Is b) w1 ⟨b, 1, none⟩ _ rfl).trans (Only.setCell (S := Is b) _ ⟨b, 2, none⟩ _ rfl) (fun _ _ h => h)
  have hall : Only fp w ((w1.setCell ⟨b, 1, none⟩ (.string ⟨d.now.toArray⟩)).setCell ⟨b, 2, none⟩ (.slice none 0 0)) :=
    (ho1.trans ho (fun _ _ h => h)).mono (fun k _ hk => hk ▸ hc.hb)
  exact ⟨rfl, ⟨grow_lt hlt hall.size, hok'.out, .slice none 0 0, l', ⟨by simpa [RHdr, DS.synced, DS.tick] using h2, World.ownsRow_nil _ _ _ _, .inl hc.hb, (fun k hk => by simp [Blk, Value.ownBlock] at hk), hc1.left⟩⟩, hall⟩

set_option maxRecDepth 100000 in
theorem rwrite_bad (b : Nat) (off : Int) (s : ByteArray) (w : World) (h : off < 0 ∨ 16777216 < off ∨ 16777216 - off < s.size) (h1 : -9223372036854775808 ≤ off) (h2 : off ≤ 9223372036854775807) (h3 : s.size ≤ 140737488355328) :
    Calls Try.prog 38 #[.pointer (some ⟨b, 0, none⟩), .int .i64 off, .string s] w fun e w' => e = .returned (.int .i64 1) ∧ w = w' := by
  by_cases g1 : off < 0
  · go_enter Try.func38, Try.ntmps38
    go_wp2
    go_ret
    exact ⟨rfl, rfl⟩
  by_cases g2 : 16777216 < off
  · go_enter Try.func38, Try.ntmps38
    go_wp2
    go_ret
    exact ⟨rfl, rfl⟩
  have g3 : 16777216 < off + s.size := by omega
  clear h
  go_enter Try.func38, Try.ntmps38
  go_wp2
  go_ret
  exact ⟨rfl, rfl⟩

set_option maxRecDepth 100000 in
theorem rwrite_off (fp : Nat → Prop) (b off : Nat) (s : ByteArray) (d : DS) (w : World) (hd : RefAt w fp b d) (ho : d.off = true) (h1 : off ≤ 16777216) (h2 : s.size ≤ 16777216 - off) :
    Calls Try.prog 38 #[.pointer (some ⟨b, 0, none⟩), .int .i64 off, .string s] w fun e w' => e = .returned (.int .i64 70) ∧ w = w' := by
  obtain ⟨hlt, hok, vp, l, hc⟩ := hd
  have h3 : off + s.size ≤ 16777216 := by omega
  go_enter Try.func38, Try.ntmps38
  go_wp2_with (go_at_call 57; refine (roff_off fp b vp d l _ hc ho).mono ?_; rintro e w' ⟨rfl, rfl⟩)
  go_ret
  exact ⟨rfl, rfl⟩
theorem Try.info92 : (Try.prog.info? 92).map (fun i => (i.zero, i.size, i.bytes)) = some (some (.agg #[.int .i64 0, .string ByteArray.empty]), 2, 24) := by kernel_rfl

/-- The loop of the reference's Write. -/
def RWRel (fp : Nat → Prop) (b : Nat) (d : DS) (off : Nat) (s : ByteArray) (w0 : World) (av : Value) (wr : World) : Prop :=
  ∃ (at' : Nat) (ps : List (Nat × List UInt8)) (vp : Value) (l : Int), av = .int .i64 at' ∧ at' ≤ s.size ∧ ps ++ parts (off + at') (s.data.toList.drop at') = parts off s.data.toList ∧ ps.length ≤ at' ∧
    RCore wr (grow fp w0 wr) b vp { d with pcs := d.pcs ++ ps } l ∧ Only fp w0 wr

theorem RHdr.set0 {w : World} {b : Nat} {vp : Value} {d : DS} {l : Int} {s : List UInt8} (h : RHdr w b vp d l) : RHdr (w.setCell ⟨b, 0, none⟩ (.string ⟨s.toArray⟩)) b vp { d with now := s } l := RHdr.set h
theorem RHdr.set2 {w : World} {b : Nat} {vp v : Value} {d : DS} {l : Int} {ps : List (Nat × List UInt8)} (h : RHdr w b vp d l) : RHdr (w.setCell ⟨b, 2, none⟩ v) b v { d with pcs := ps } l := RHdr.set h

theorem radd_end {fp : Nat → Prop} {b o : Nat} {vp : Value} {d : DS} {l : Int} {t : List UInt8} {w w1 w2 : World} {g cap n : Nat} {ob : Obj} (h : RCore w fp b vp d l) (h1 : w1.heap = (w.alloc ob).heap) (hos : w1.os = w.os) (htp : w1.tape = w.tape) (hout : w1.output = w.output)
    (hown : w2.ownsRow 0 92 2 (.slice (some ⟨g, 0, none⟩) n cap) n (rcells d.pcs ++ [.int .i64 o, .string ⟨t.toArray⟩])) (hn : n = d.pcs.length + 1) (hgr : w1.grownBy w2 vp.ownBlock) (hfr : ∀ k, (Value.slice (some ⟨g, 0, none⟩) n cap).ownBlock = some k → vp.ownBlock = some k ∨ w1.heap.size ≤ k) :
    w2.cell? ⟨b, 2, none⟩ = some vp ∧ w2.frozen? ⟨b, 2, none⟩ = false ∧ RCore (w2.setCell ⟨b, 2, none⟩ (.slice (some ⟨g, 0, none⟩) n cap)) (grow fp w w2) b (.slice (some ⟨g, 0, none⟩) n cap) { d with pcs := d.pcs ++ [(o, t)] } l ∧
      Only fp w (w2.setCell ⟨b, 2, none⟩ (.slice (some ⟨g, 0, none⟩) n cap)) := by
  have hlt := h.hdr.lt
  have hsz : w1.heap.size = w.heap.size + 1 := by rw [h1]; simp
  have o1' : Only Nob w w1 := ⟨hos, htp, hout, by omega, fun k hk _ => by rw [h1, Below.heap_alloc _ _ _ hk]⟩
  have o2' : Only (Blk vp) w1 w2 := Only.grown hgr (fun k hk => hk)
  have hnb : ¬ Blk vp b := fun x => (h.ap b x).2 rfl
  have hh2 : RHdr w2 b vp d l := (h.hdr.other o1' (fun h => h)).other o2' hnb
  have hgb : g ≠ b := by
    rintro rfl
    rcases hfr g rfl with h | h
    · exact hnb h
    · omega
  refine ⟨hh2.cells.2.2.1, hh2.free 2, ⟨RHdr.set2 hh2, ?_, .inl h.hb, ?_, h.left⟩, ?_⟩
  · show World.ownsRow _ 0 92 2 _ (d.pcs ++ [(o, t)]).length (rcells (d.pcs ++ [(o, t)]))
    rw [rcells_snoc, List.length_append]
    subst hn
    exact ownsRow_setCell_other hown (by simp [Value.ownBlock]; exact hgb) _
  · intro k hk
    have hkl := Own.lt hown hk
    have hk2 : k = g := by simp [Blk, Value.ownBlock] at hk; exact hk.symm
    rcases hfr k hk with h2 | h2
    · exact ⟨.inl (h.ap k h2).1, (h.ap k h2).2⟩
    · exact ⟨.inr ⟨by omega, hkl⟩, hk2 ▸ hgb⟩
  · refine (o1'.mono (fun _ _ h => h.elim)).trans ((o2'.mono (T := fp) (fun k _ hk => (h.ap k hk).1)).trans (Only.setCell _ _ _ h.hb) (fun _ _ h => h)) (fun _ _ h => h)

theorem RWRel.step {fp : Nat → Prop} {b : Nat} {d : DS} {off : Nat} {s : ByteArray} {w0 wr w' : World} {at' n : Nat} {ps : List (Nat × List UInt8)} {vp : Value} {l : Int} {t : List UInt8}
    (h0 : at' < s.size) (hn : n = min (64 - (off + at') % 64) (s.size - at')) (h2 : ps ++ parts (off + at') (s.data.toList.drop at') = parts off s.data.toList) (h3 : ps.length ≤ at') (h5 : Only fp w0 wr) (hz : wr.heap.size ≤ w'.heap.size)
    (ht : t = (s.extract at' (at' + n)).data.toList) (hc : RCore w' (grow (grow fp w0 wr) wr w') b vp { d with pcs := (d.pcs ++ ps) ++ [(off + at', t)] } l) (ho : Only (grow fp w0 wr) wr w') :
    RWRel fp b d off s w0 (.int .i64 (at' + n : Nat)) w' := by
  have hm := Nat.mod_lt (off + at') (show 64 > 0 by omega)
  have hl : (s.data.toList.drop at').length = s.size - at' := by simp
  refine ⟨at' + n, ps ++ [(off + at', t)], vp, l, rfl, by omega, ?_, by simp; omega, ?_, h5.trans' ho⟩
  · rw [← h2, parts_cons (off + at') (s.data.toList.drop at') (by rw [hl]; omega), hl, ht, toList_extract]
    simp only [List.append_assoc, List.cons_append, List.nil_append]
    rw [show at' + n - at' = n by omega, ← hn, Nat.add_assoc, List.drop_drop]
    have e1 : (s.data.toList.drop at').take n = (s.data.toList.drop at').take (64 - (off + at') % 64) := by
      rw [List.take_eq_take_iff, hl]; omega
    have e2 : s.data.toList.drop (at' + n) = s.data.toList.drop (at' + (64 - (off + at') % 64)) := by
      by_cases hle : 64 - (off + at') % 64 ≤ s.size - at'
      · rw [hn, Nat.min_eq_left hle]
      · rw [List.drop_eq_nil_of_le (by simp; omega), List.drop_eq_nil_of_le (by simp; omega)]
    rw [e1, e2]
  · rw [← List.append_assoc]
    exact hc.mono (fun k hk => grow_grow h5.size hz hk)

set_option maxRecDepth 100000 in
set_option maxHeartbeats 1000000 in
theorem rwrite_on (fp : Nat → Prop) (b off : Nat) (s : ByteArray) (d : DS) (w : World) (hd : RefAt w fp b d) (ho : d.off = false) (hcl : d.calls < 100000) (h1 : off ≤ 16777216) (h2 : s.size ≤ 16777216 - off) :
    Calls Try.prog 38 #[.pointer (some ⟨b, 0, none⟩), .int .i64 off, .string s] w (RPost fp b (d.written off s.data.toList) (.int .i64 0) w) := by
  obtain ⟨hlt, hok, vp, l, hc⟩ := hd
  have hl : s.data.toList.length = s.size := by simp
  have hOK := Lib.hid (hok.written hcl ho (off := off) (s := s.data.toList) (by omega))
  have hnow := hok.now
  have hpc : d.pcs.length ≤ 1677721600000 := Nat.le_trans hok.pcs (Nat.mul_le_mul_right 16777216 hok.calls)
  have h3 : off + s.size ≤ 16777216 := by omega
  go_enter Try.func38, Try.ntmps38
  go_wp2_with fail
  refine (roff_on fp b vp d l _ hc hok ho).mono ?_
  rintro e w1 ⟨rfl, ⟨l1, hc1⟩, ho1⟩
  obtain ⟨c0, _, _, _, _, _⟩ := hc1.hdr.cells
  have hs1 := ho1.size
  go_wp2_with fail
  refine (rput_any ⟨d.now.toArray⟩ s off _ h1 (by omega) (by simpa [← ByteArray.size_data] using hnow)).mono ?_
  rintro e w3 ⟨rfl, ho3⟩
  have hc3 := hc1.other ho3 (fun _ _ h => h)
  have f3 := hc3.hdr.free
  obtain ⟨k0, _, _, _, _, _⟩ := hc3.hdr.cells
  go_wp2_with fail
  have hc4 : RCore (w3.setCell ⟨b, 0, none⟩ (.string ⟨(put d.now off s.data.toList).toArray⟩)) fp b vp { d.tick with now := put d.now off s.data.toList } l1 :=
    hc3.head (Only.setCell _ _ _ rfl) (RHdr.set0 hc3.hdr) rfl hc3.left
  have h14 : Only fp w (w3.setCell ⟨b, 0, none⟩ (.string ⟨(put d.now off s.data.toList).toArray⟩)) :=
    (ho1.mono (T := fp) (fun k _ hk => hk ▸ hc.hb)).trans ((ho3.mono (T := fp) (fun _ _ x => x.elim)).trans (Only.setCell _ _ _ hc.hb) (fun _ _ h => h)) (fun _ _ h => h)
  have HR : RWRel fp b { d.tick with now := put d.now off s.data.toList } off s w (.int .i64 (0 : Nat)) (w3.setCell ⟨b, 0, none⟩ (.string ⟨(put d.now off s.data.toList).toArray⟩)) := by
    refine ⟨0, [], vp, l1, rfl, Nat.zero_le _, rfl, Nat.le_refl _, ?_, h14⟩
    rw [List.append_nil]
    exact hc4.mono (fun k hk => .inl hk)
  obtain ⟨i0, hi, hz0, hz1, hz2⟩ := info_parts Try.info92
  clear hc4 hc3 hc1 ho1 ho3 k0 f3 c0 h14
  go_loopw [8] (fun av wr => RWRel fp b { d.tick with now := put d.now off s.data.toList } off s w av wr) (fun av _ => s.size - (intOf av).toNat)
  case atStart => exact HR
  case round =>
    obtain ⟨at', ps, vp1, l2, rfl, g1, g2, g3, g4, g5⟩ := hrel
    have G2 := Lib.hid g2
    obtain ⟨_, _, c2, _, _, _⟩ := g4.hdr.cells
    have f2 := g4.hdr.free
    have hbl := g4.hdr.lt
    clear g2 HR
    by_cases h0 : at' < s.size
    · have hlen : (d.tick.pcs ++ ps).length ≤ 1900000000000 := by show (d.pcs ++ ps).length ≤ _; rw [List.length_append]; omega
      by_cases hmin : 64 - (off + at') % 64 ≤ s.size - at'
      · obtain ⟨n, hn⟩ : ∃ n, n = 64 - (off + at') % 64 := ⟨_, rfl⟩
        have hnZ : (64 : Int) - (off + at') % 64 = n := by omega
        have hN := Lib.hid hn
        have hnle : n ≤ s.size - at' := by omega
        have hn1 : 1 ≤ n := by omega
        clear hn
        go_wp2_with fail
        clear hnZ
        obtain ⟨q, hq⟩ : ∃ q, q = at' + n := ⟨_, rfl⟩
        obtain ⟨p, hp⟩ : ∃ p, p = off + at' := ⟨_, rfl⟩
        obtain ⟨t, ht⟩ : ∃ t, t = (s.extract at' q).data.toList := ⟨_, rfl⟩
        have hq1 : at' ≤ q := by omega
        have hq2 : q ≤ s.size := by omega
        have hw1 : IntKind.i64.wrap (↑at' + ↑n) = (q : Int) := by rw [IntWalk.i64_in _ (by omega)]; omega
        have hw2 : IntKind.i64.wrap (↑off + ↑at') = (p : Int) := by rw [IntWalk.i64_in _ (by omega)]; omega
        have hst : s.extract at' q = ⟨t.toArray⟩ := by rw [ht]
        have hpq := Lib.hid (And.intro hq (And.intro hp ht))
        clear hq hp ht
        go_region_law (refine step_append_own_f rfl (.tmp 54) (.tmp 65) 83 rfl 92 i0 _ 2 24 Try.underlying83 hi hz0 hz1 hz2 rfl (by decide) vp1 (d.tick.pcs ++ ps).length (rcells (d.tick.pcs ++ ps)) (by simp [Act.eval]) (g4.pcs.alloc _) ⟨wr.heap.size, 0, none⟩ 1 1 [.int .i64 p, .string ⟨t.toArray⟩] (by simp [Act.eval]) rfl (by intro j u hj; have := cell_two_new wr (.int .i64 p) (.string ⟨t.toArray⟩) 92 j u hj; simpa using this) (by simp; exact ⟨rfl, rfl⟩) (by unfold maxLen; omega) (by omega) ?_; intro v' w' hown hgr hfr _; obtain ⟨g, cap', rfl, hle, hg⟩ := own_form_pos hown (by omega); obtain ⟨q1, q2, q3, q4⟩ := radd_end (w1 := (wr.alloc (.cells #[.int .i64 p, .string ⟨t.toArray⟩] 92)).drew) g4 rfl rfl rfl rfl hown rfl hgr hfr; have P := Lib.hid (And.intro q3 q4); clear q3 q4 hgr hfr hown)
        all_goals
          clear hw1 hw2 hst
          go_wp2
          go_roundw
          case rel =>
            obtain ⟨q3, q4⟩ := P.out
            obtain ⟨hq, hp, ht⟩ := hpq.out
            subst hq hp
            have := RWRel.step (d := { d.tick with now := put d.now off s.data.toList }) h0 (by rw [hN.out]; omega) G2.out g3 g5 (by simpa using q4.size) ht (q3.mono (fun k hk => by simpa [grow] using hk)) q4
            simpa using this
          case measure => simp [intOf]; omega
      · obtain ⟨n, hn⟩ : ∃ n, n = s.size - at' := ⟨_, rfl⟩
        have hnZ : (s.size : Int) - at' = n := by omega
        have hN := Lib.hid hn
        have hnle : n ≤ s.size - at' := by omega
        have hn1 : 1 ≤ n := by omega
        have hm64 := Nat.mod_lt (off + at') (show 64 > 0 by omega)
        clear hn
        go_wp2_with fail
        clear hnZ
        obtain ⟨q, hq⟩ : ∃ q, q = at' + n := ⟨_, rfl⟩
        obtain ⟨p, hp⟩ : ∃ p, p = off + at' := ⟨_, rfl⟩
        obtain ⟨t, ht⟩ : ∃ t, t = (s.extract at' q).data.toList := ⟨_, rfl⟩
        have hq1 : at' ≤ q := by omega
        have hq2 : q ≤ s.size := by omega
        have hw1 : IntKind.i64.wrap (↑at' + ↑n) = (q : Int) := by rw [IntWalk.i64_in _ (by omega)]; omega
        have hw2 : IntKind.i64.wrap (↑off + ↑at') = (p : Int) := by rw [IntWalk.i64_in _ (by omega)]; omega
        have hst : s.extract at' q = ⟨t.toArray⟩ := by rw [ht]
        have hpq := Lib.hid (And.intro hq (And.intro hp ht))
        clear hq hp ht
        go_region_law (refine step_append_own_f rfl (.tmp 54) (.tmp 65) 83 rfl 92 i0 _ 2 24 Try.underlying83 hi hz0 hz1 hz2 rfl (by decide) vp1 (d.tick.pcs ++ ps).length (rcells (d.tick.pcs ++ ps)) (by simp [Act.eval]) (g4.pcs.alloc _) ⟨wr.heap.size, 0, none⟩ 1 1 [.int .i64 p, .string ⟨t.toArray⟩] (by simp [Act.eval]) rfl (by intro j u hj; have := cell_two_new wr (.int .i64 p) (.string ⟨t.toArray⟩) 92 j u hj; simpa using this) (by simp; exact ⟨rfl, rfl⟩) (by unfold maxLen; omega) (by omega) ?_; intro v' w' hown hgr hfr _; obtain ⟨g, cap', rfl, hle, hg⟩ := own_form_pos hown (by omega); obtain ⟨q1, q2, q3, q4⟩ := radd_end (w1 := (wr.alloc (.cells #[.int .i64 p, .string ⟨t.toArray⟩] 92)).drew) g4 rfl rfl rfl rfl hown rfl hgr hfr; have P := Lib.hid (And.intro q3 q4); clear q3 q4 hgr hfr hown)
        all_goals
          clear hw1 hw2 hst
          go_wp2
          go_roundw
          case rel =>
            obtain ⟨q3, q4⟩ := P.out
            obtain ⟨hq, hp, ht⟩ := hpq.out
            subst hq hp
            have := RWRel.step (d := { d.tick with now := put d.now off s.data.toList }) h0 (by rw [hN.out]; omega) G2.out g3 g5 (by simpa using q4.size) ht (q3.mono (fun k hk => by simpa [grow] using hk)) q4
            simpa using this
          case measure => simp [intOf]; omega
    · have hat : at' = s.size := by omega
      have G2' := G2.out
      rw [hat, List.drop_eq_nil_of_le (by rw [hl]; omega), parts_nil, List.append_nil] at G2'
      go_wp2
      go_ret
      subst G2'
      exact ⟨rfl, ⟨grow_lt hlt g5.size, hOK.out, _, _, g4⟩, g5⟩
end Go.Proofs.Ytdpebdghhgojaaa
