/- The walk of (*Disk).Write. -/
import Derived.Test.YtdpebdghhgojaaaAdd
import Derived.Laws.IdiomStrings
import Derived.BigQuiet
namespace Go.Proofs.Ytdpebdghhgojaaa
open Go.RowKit

/-- The world behind a conversion of a string to bytes. -/
def strWorld (w : World) (s : ByteArray) : World :=
  w.drew.alloc (.cells (bytesRow s (grownCap w s.size 0 5)) 5 ((bytesRow s (grownCap w s.size 0 5)).size, (bytesRow s (grownCap w s.size 0 5)).size + 1))
def strCap (w : World) (s : ByteArray) : Nat := grownCap w s.size 0 5

theorem run_str (w : World) (s : ByteArray) : (convert 9 56 (.string s)).run Try.prog w = .ok (.slice (some ⟨w.heap.size, 0, none⟩) s.size (strCap w s)) (strWorld w s) :=
  run_bytes_of_string (P := Try.prog) w 9 56 5 s Try.underlying9 Try.underlying56 Try.underlying5

theorem strWorld_only (w : World) (s : ByteArray) : Only Nob w (strWorld w s) := (Only.drew _ w).trans (Only.alloc Nob w.drew _) (fun _ _ h => h)
theorem strWorld_size (w : World) (s : ByteArray) : (strWorld w s).heap.size = w.heap.size + 1 := by simp [strWorld]
theorem strWorld_src (w : World) (s : ByteArray) : Src (strWorld w s) (.slice (some ⟨w.heap.size, 0, none⟩) s.size (strCap w s)) s.data.toList := by
  refine ⟨w.heap.size, strCap w s, _, 5, _, rfl, heap_alloc_new w.drew _, ?_⟩
  have : (s.data.map fun b => Value.int .u8 b.toNat).toList = cellsB s.data.toList := by simp [cellsB]
  simp only [bytesRow, Array.toList_append]
  rw [this, List.take_append_of_le_length (by simp)]
  exact List.take_of_length_le (by simp)

set_option maxRecDepth 100000 in
theorem write_bad (b : Nat) (off : Int) (s : ByteArray) (w : World) (h : off < 0 ∨ 16777216 < off ∨ 16777216 - off < s.size) (h1 : -9223372036854775808 ≤ off) (h2 : off ≤ 9223372036854775807) (_h3 : s.size ≤ 140737488355328) :
    Calls Try.prog 33 #[.pointer (some ⟨b, 0, none⟩), .int .i64 off, .string s] w fun e w' => e = .returned (.int .i64 1) ∧ w = w' := by
  by_cases g1 : off < 0
  · go_enter Try.func33, Try.ntmps33
    go_wp2
    go_ret
    exact ⟨rfl, rfl⟩
  by_cases g2 : 16777216 < off
  · go_enter Try.func33, Try.ntmps33
    go_wp2
    go_ret
    exact ⟨rfl, rfl⟩
  have g3 : 16777216 - off < s.size := by omega
  clear h
  go_enter Try.func33, Try.ntmps33
  go_wp2
  go_ret
  exact ⟨rfl, rfl⟩

set_option maxRecDepth 100000 in
theorem write_off (fp : Nat → Prop) (b off : Nat) (s : ByteArray) (d : DS) (w : World) (hd : DiskAt w fp b d) (ho : d.off = true) (h1 : off ≤ 16777216) (h2 : s.size ≤ 16777216 - off) :
    Calls Try.prog 33 #[.pointer (some ⟨b, 0, none⟩), .int .i64 off, .string s] w fun e w' => e = .returned (.int .i64 70) ∧ w = w' := by
  obtain ⟨hlt, hok, vn, vs, vp, vts, hc⟩ := hd
  go_enter Try.func33, Try.ntmps33
  go_wp2_with (go_at_call 54; refine (call_off b vn vs vp d _ hc.hdr ho).mono ?_; rintro e w' ⟨rfl, rfl⟩)
  go_ret
  exact ⟨rfl, rfl⟩

def strLen : Value → Nat
  | .string s => s.size
  | _ => 0

/-- The loop of Write: so many parts have been added. -/
def WRel (fp : Nat → Prop) (b : Nat) (vn vs : Value) (d : DS) (off : Nat) (s : List UInt8) (w0 : World) (o sv : Value) (wr : World) : Prop :=
  ∃ (ok : Nat) (sk : ByteArray) (ps : List (Nat × List UInt8)) (vp : Value) (vts : List Value), o = .int .i64 ok ∧ sv = .string sk ∧ ok + sk.size = off + s.length ∧ ps ++ parts ok sk.data.toList = parts off s ∧ ps.length + sk.size ≤ s.length ∧
    Core wr (grow fp w0 wr) b vn vs vp vts { d with pcs := d.pcs ++ ps } ∧ Only fp w0 wr

theorem WRel.step {fp : Nat → Prop} {b : Nat} {vn vs vp vp' v : Value} {vts : List Value} {d : DS} {off ok : Nat} {s : List UInt8} {sk : ByteArray} {ps : List (Nat × List UInt8)} {w0 wr w1 w' : World} {t : List UInt8} {n : Nat}
    (h0 : 0 < sk.size) (hn : n = min (64 - ok % 64) sk.size) (h1 : ok + sk.size = off + s.length) (h2 : ps ++ parts ok sk.data.toList = parts off s) (h3 : ps.length + sk.size ≤ s.length)
    (h4 : Core wr (grow fp w0 wr) b vn vs vp vts { d with pcs := d.pcs ++ ps }) (h5 : Only fp w0 wr)
    (ho1 : Only Nob wr w1) (hv : Src w1 v t) (ht : t = (sk.extract 0 n).data.toList) (hvf : ∀ k, Blk v k → wr.heap.size ≤ k)
    (hh : Hdr w' b vn vs vp' { d with pcs := d.pcs ++ ps }) (hr : w'.ownsRow 0 88 2 vp' ((d.pcs ++ ps).length + 1) (pieceCells (d.pcs ++ ps) vts ++ [.int .i64 ok, v])) (ho : Only (fun k => k = b ∨ Blk vp k) w1 w') (hf : ∀ k, Blk vp' k → Blk vp k ∨ w1.heap.size ≤ k) :
    WRel fp b vn vs d off s w0 (.int .i64 (ok + n : Nat)) (.string (sk.extract n sk.size)) w' := by
  have hm := Nat.mod_lt ok (show 64 > 0 by omega)
  have hsz : (sk.extract n sk.size).size = sk.size - n := by simp [ByteArray.size_extract]
  have hl : sk.data.toList.length = sk.size := by simp
  have hz1 := ho1.size
  have hz2 := ho.size
  refine ⟨ok + n, _, ps ++ [(ok, t)], vp', vts ++ [v], rfl, rfl, by rw [hsz]; omega, ?_, by rw [hsz, List.length_append]; simp; omega, ?_, ?_⟩
  · rw [← h2, parts_cons ok sk.data.toList (by rw [hl]; exact h0), ht, toList_extract, toList_extract, hl, hn]
    simp only [List.append_assoc, List.cons_append, List.nil_append, List.drop_zero, Nat.sub_zero]
    have e1 : sk.data.toList.take (min (64 - ok % 64) sk.size) = sk.data.toList.take (64 - ok % 64) := by
      rw [List.take_eq_take_iff, hl]; omega
    have e2 : (sk.data.toList.drop (min (64 - ok % 64) sk.size)).take (sk.size - min (64 - ok % 64) sk.size) = sk.data.toList.drop (64 - ok % 64) := by
      rw [List.take_of_length_le (by rw [List.length_drop, hl]; omega)]
      by_cases hle : 64 - ok % 64 ≤ sk.size
      · rw [Nat.min_eq_left hle]
      · rw [List.drop_eq_nil_of_le (by rw [hl]; omega), List.drop_eq_nil_of_le (by rw [hl]; omega)]
    rw [e1, e2]
  · have hA := h4.addPc ho1 hv hvf hh hr ho hf
    simp only [List.append_assoc] at hA
    exact hA.mono (fun k hk => grow_grow h5.size (by omega) hk)
  · refine h5.trans' ((ho1.mono (fun _ _ h => h.elim)).trans ho (fun i hi hx => ?_))
    rcases hx with rfl | hx
    · exact h4.hb
    · exact (h4.ap i hx).1

theorem WRel.drew {fp : Nat → Prop} {b : Nat} {vn vs : Value} {d : DS} {off : Nat} {s : List UInt8} {w0 wr : World} {o sv : Value} (h : WRel fp b vn vs d off s w0 o sv wr) : WRel fp b vn vs d off s w0 o sv wr.drew := by
  obtain ⟨ok, sk, ps, vp, vts, a1, a2, a3, a4, a5, a6, a7⟩ := h
  exact ⟨ok, sk, ps, vp, vts, a1, a2, a3, a4, a5, a6.other (Only.drew Nob wr) (fun _ _ x => x), a7.trans (Only.drew fp wr) (fun _ _ x => x)⟩

set_option maxRecDepth 100000 in
set_option maxHeartbeats 1000000 in
theorem write_on (fp : Nat → Prop) (b off : Nat) (s : ByteArray) (d : DS) (w : World) (hd : DiskAt w fp b d) (ho : d.off = false) (hcl : d.calls < 100000) (h1 : off ≤ 16777216) (h2 : s.size ≤ 16777216 - off) :
    Calls Try.prog 33 #[.pointer (some ⟨b, 0, none⟩), .int .i64 off, .string s] w (DPost fp b (d.written off s.data.toList) (.int .i64 0) w) := by
  obtain ⟨hlt, hok, vn, vs, vp, vts, hc⟩ := hd
  have hl : s.data.toList.length = s.size := by simp
  have hok' := hok.written hcl ho (off := off) (s := s.data.toList) (by omega)
  have hOK := Lib.hid hok'
  have hnow := hok.now
  have hpc : d.pcs.length ≤ 1677721600000 := Nat.le_trans hok.pcs (Nat.mul_le_mul_right 16777216 hok.calls)
  clear hok'
  have hstr := run_str
  go_enter Try.func33, Try.ntmps33
  go_wp2_with fail
  refine (call_on b vn vs vp d _ hc.hdr hok ho).mono ?_
  rintro e w1 ⟨rfl, hh1, ho1⟩
  have hc1 := hc.head ho1 hh1 rfl rfl rfl
  obtain ⟨c0, _, _, _, _, _⟩ := hc1.hdr.cells
  have hs1 := ho1.size
  go_wp2_with fail
  have ho2 := strWorld_only w1 s
  have hc2 := hc1.other ho2 (fun _ _ h => h)
  have hs2 := strWorld_size w1 s
  have hsrc := strWorld_src w1 s
  refine (put_any vn _ off d.now s.data.toList _ hc2.now hsrc ?_ (by omega) hnow).mono ?_
  · intro k hk hx
    simp [Blk, Value.ownBlock] at hk
    have := Own.lt hc1.now hx
    omega
  rintro e w3 ⟨v', rfl, hr3, ho3, hf3⟩
  obtain ⟨ao, cap', hv', _⟩ := own_form hr3
  have hs3 := ho3.size
  have hc4 := hc2.setNow hr3 ho3 hf3
  have hh3 : Hdr w3 b vn vs vp d.tick := hc2.hdr.other ho3 (fun x => (hc2.an b x).2 rfl)
  obtain ⟨k0, _, _, _, _, _⟩ := hh3.cells
  have f3 := hh3.free
  subst hv'
  go_wp2_with fail
  have h12 : Only fp w w1 := ho1.mono (fun k _ hk => hk ▸ hc.hb)
  have h14 : Only fp w (w3.setCell ⟨b, 0, none⟩ (.slice ao (put d.now off s.data.toList).length cap')) :=
    h12.trans ((ho2.mono (T := fp) (fun _ _ x => x.elim)).trans ((ho3.mono (T := fp) (fun k _ hk => (hc2.an k hk).1)).trans (Only.setCell _ _ _ hc.hb) (fun _ _ h => h)) (fun _ _ h => h)) (fun _ _ h => h)
  have HR : WRel fp b (.slice ao (put d.now off s.data.toList).length cap') vs { d.tick with now := put d.now off s.data.toList } off s.data.toList w (.int .i64 off) (.string s) (w3.setCell ⟨b, 0, none⟩ (.slice ao (put d.now off s.data.toList).length cap')) := by
    refine ⟨off, s, [], vp, vts, rfl, rfl, by rw [hl], rfl, by rw [hl]; simp, ?_, h14⟩
    rw [List.append_nil]
    refine hc4.mono (fun k hk => ?_)
    rcases hk with hk | ⟨hk, hk2⟩
    · exact .inl hk
    · exact .inr ⟨by omega, by simpa using hk2⟩
  clear hc4 hc2 hc1 hh3 hr3 ho3 hf3 hsrc ho2 ho1 hh1 k0 f3 c0 h12 h14
  go_loopw [1, 2] (fun o sv wr => WRel fp b (.slice ao (put d.now off s.data.toList).length cap') vs { d.tick with now := put d.now off s.data.toList } off s.data.toList w o sv wr) (fun _ sv _ => strLen sv)
  case atStart => exact HR
  case round =>
    obtain ⟨ok, sk, ps, vp1, vts1, rfl, rfl, g1, g2, g3, g4, g5⟩ := hrel
    have G2 := Lib.hid g2
    clear g2 HR
    by_cases h0 : 0 < sk.size
    · have gb : ok ≤ 16777216 := by omega
      have gs : sk.size ≤ 16777216 := by omega
      obtain ⟨_, _, c2, _, _, _⟩ := g4.hdr.cells
      have f2 := g4.hdr.free
      have hbl := g4.hdr.lt
      by_cases hmin : 64 - ok % 64 ≤ sk.size
      · obtain ⟨n, hn⟩ : ∃ n, n = 64 - ok % 64 := ⟨_, rfl⟩
        have hnZ : (64 : Int) - ok % 64 = n := by omega
        have hN := Lib.hid hn
        have hnle : n ≤ sk.size := by omega
        have hn1 : 1 ≤ n := by omega
        clear hn
        go_wp2_with fail
        clear hnZ
        have ho5 : Only Nob wr (strWorld wr.drew (sk.extract 0 n)) := (Only.drew Nob wr).trans (strWorld_only wr.drew _) (fun _ _ h => h)
        have h5 := g4.other ho5 (fun _ _ h => h)
        have hs5 := strWorld_src wr.drew (sk.extract 0 n)
        have hsz5 : (sk.extract 0 n).size = n := by simp [ByteArray.size_extract]; omega
        rw [hsz5] at hs5
        have HA := fun (W : World) (hW : W = strWorld wr.drew (sk.extract 0 n)) => (hW ▸ add_any b _ vs vp1 (.slice (some ⟨wr.heap.size, 0, none⟩) n (strCap wr.drew (sk.extract 0 n))) ok _ _ _ _ h5.hdr h5.pcs.row (by show (d.pcs ++ ps).length ≤ _; rw [List.length_append]; omega) (fun x => (h5.ap b x).2.1 rfl) rfl : Calls Try.prog 55 _ W _)
        clear hsz5
        go_region_law (go_simp; go_at_call 55; refine (HA _ rfl).mono ?_; rintro e w5 ⟨vp', rfl, p1, p2, p3, p4⟩)
        have P := Lib.hid (And.intro p1 (And.intro p2 (And.intro p3 p4)))
        clear p1 p2 p3 p4
        go_wp2_with fail
        go_region
        all_goals
          go_wp2
          go_roundw
          case rel =>
            obtain ⟨p1, p2, p3, p4⟩ := P.out
            have := WRel.step (d := { d.tick with now := put d.now off s.data.toList }) h0 (by rw [hN.out]; omega) g1 G2.out g3 g4 g5 ho5 hs5 rfl (fun k hk => by simp [Blk, Value.ownBlock] at hk; omega) p1 p2 p3 p4
            simpa using this.drew
          case measure =>
            simp [strLen, ByteArray.size_extract]
            omega
      · have hm64 := Nat.mod_lt ok (show 64 > 0 by omega)
        go_wp2_with fail
        have ho5 : Only Nob wr (strWorld wr.drew sk) := (Only.drew Nob wr).trans (strWorld_only wr.drew _) (fun _ _ h => h)
        have h5 := g4.other ho5 (fun _ _ h => h)
        have hs5 := strWorld_src wr.drew sk
        have HA := fun (W : World) (hW : W = strWorld wr.drew sk) => (hW ▸ add_any b _ vs vp1 (.slice (some ⟨wr.heap.size, 0, none⟩) sk.size (strCap wr.drew sk)) ok _ _ _ _ h5.hdr h5.pcs.row (by show (d.pcs ++ ps).length ≤ _; rw [List.length_append]; omega) (fun x => (h5.ap b x).2.1 rfl) rfl : Calls Try.prog 55 _ W _)
        go_region_law (go_simp; go_at_call 55; refine (HA _ rfl).mono ?_; rintro e w5 ⟨vp', rfl, p1, p2, p3, p4⟩)
        have P := Lib.hid (And.intro p1 (And.intro p2 (And.intro p3 p4)))
        clear p1 p2 p3 p4
        go_wp2_with fail
        go_region
        all_goals
          go_wp2
          go_roundw
          case rel =>
            obtain ⟨p1, p2, p3, p4⟩ := P.out
            have := WRel.step (n := sk.size) (d := { d.tick with now := put d.now off s.data.toList }) h0 (by omega) g1 G2.out g3 g4 g5 ho5 hs5 (by rw [toList_extract, List.drop_zero, Nat.sub_zero]; exact (List.take_of_length_le (by simp)).symm) (fun k hk => by simp [Blk, Value.ownBlock] at hk; omega) p1 p2 p3 p4
            simpa using this.drew
          case measure =>
            simp [strLen]
            omega
    · have h00 : sk.size = 0 := by omega
      have hsk : sk.data.toList = [] := List.eq_nil_of_length_eq_zero (by simpa using h00)
      go_wp2
      go_ret
      have G2' := G2.out
      rw [hsk, parts_nil, List.append_nil] at G2'
      subst G2'
      exact ⟨rfl, ⟨grow_lt hlt g5.size, hOK.out, _, _, _, _, g4⟩, g5⟩
end Go.Proofs.Ytdpebdghhgojaaa
