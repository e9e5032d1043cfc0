/- The walk of (*Disk).Crash. -/
import Derived.Test.YtdpebdghhgojaaaSync
namespace Go.Proofs.Ytdpebdghhgojaaa
open Go.RowKit

/-- v is a slice of the integers zs, somewhere in memory. -/
def Ints (w : World) (v : Value) (zs : List Int) : Prop :=
  (zs = [] ∧ ∃ ao cap, v = .slice ao 0 cap) ∨ (0 < zs.length ∧ ∃ b off cap, v = .slice (some ⟨b, off, none⟩) zs.length cap ∧ zs.length ≤ 9223372036854775807 ∧ ∀ i, i < zs.length → w.cell? ⟨b, off + i, none⟩ = some (.int .i64 (zs.getD i 0)))

theorem Ints.other {S : Nat → Prop} {w w' : World} {v : Value} {zs : List Int} (h : Ints w v zs) (ho : Only S w w') (hn : ∀ b off cap n, v = .slice (some ⟨b, off, none⟩) n cap → ¬ S b) : Ints w' v zs := by
  rcases h with h | ⟨h0, b, off, cap, hv, hm, hc⟩
  · exact .inl h
  · refine .inr ⟨h0, b, off, cap, hv, hm, fun i hi => ?_⟩
    have := hc i hi
    rw [ho.cell (World.block_lt_of_cell? w _ this) (hn b off cap _ hv)]
    exact this

def keeps (zs : List Int) (k : Nat) : Bool := decide (0 < zs.length) && (zs.getD (k % zs.length) 0).tmod 2 != 0

/-- The contents after a crash: the parts from number k on. -/
def crashF (zs : List Int) : List UInt8 → Nat → List (Nat × List UInt8) → List UInt8
  | c, _, [] => c
  | c, k, p :: ps => crashF zs (if keeps zs k then put c p.1 p.2 else c) (k + 1) ps

def DS.crashed (d : DS) (zs : List Int) : DS := ⟨crashF zs d.syn 0 d.pcs, crashF zs d.syn 0 d.pcs, [], 0, false, 0⟩

theorem crashF_length (zs : List Int) : ∀ (ps : List (Nat × List UInt8)) (c : List UInt8) (k : Nat), c.length ≤ 16777216 → (∀ p ∈ ps, p.1 + p.2.length ≤ 16777216) → (crashF zs c k ps).length ≤ 16777216
  | [], _, _, h, _ => h
  | p :: ps, c, k, h, hp => by
    refine crashF_length zs ps _ _ ?_ (fun q hq => hp q (List.mem_cons_of_mem _ hq))
    have := hp p List.mem_cons_self
    split
    · rw [length_put]; omega
    · exact h

def CRel (zs : List Int) (d : DS) (w : World) (vc kv : Value) (wr : World) : Prop :=
  ∃ (k : Nat) (c : List UInt8), kv = .int .i64 k ∧ k ≤ d.pcs.length ∧ Row wr vc c ∧ c.length ≤ 16777216 ∧ crashF zs c k (d.pcs.drop k) = crashF zs d.syn 0 d.pcs ∧ Only Nob w wr ∧ (∀ j, Blk vc j → w.heap.size < j) ∧ Hdr wr w.heap.size (.slice none 0 0) (.slice none 0 0) (.slice none 0 0) .new

theorem CRel.step {zs : List Int} {d : DS} {w w' : World} {v' : Value} {k : Nat} {c c' : List UInt8} (hk : k < d.pcs.length) (hok : d.Ok) (h3 : c.length ≤ 16777216) (h4 : crashF zs c k (d.pcs.drop k) = crashF zs d.syn 0 d.pcs)
    (e : c' = if keeps zs k then put c d.pcs[k].1 d.pcs[k].2 else c) (hr : Row w' v' c') (ho : Only Nob w w') (hb : ∀ j, Blk v' j → w.heap.size < j) (hh : Hdr w' w.heap.size (.slice none 0 0) (.slice none 0 0) (.slice none 0 0) .new) :
    CRel zs d w v' (.int .i64 (k + 1 : Nat)) w' := by
  refine ⟨k + 1, c', rfl, hk, hr, ?_, ?_, ho, hb, hh⟩
  · rw [e]
    have := hok.each _ (List.getElem_mem hk)
    split
    · rw [length_put]; omega
    · exact h3
  · rw [← h4, List.drop_eq_getElem_cons hk, e]
    rfl

def CrashPost (d : DS) (zs : List Int) (w : World) (e : Ending) (w' : World) : Prop :=
  ∃ b, e = .returned (.pointer (some ⟨b, 0, none⟩)) ∧ w.heap.size ≤ b ∧ DiskAt w' (grow Nob w w') b (d.crashed zs) ∧ Only Nob w w'

theorem pieceCells_at : ∀ (l : List (Nat × List UInt8)) (vts : List Value), vts.length = l.length → ∀ (k : Nat) (h : k < l.length), (pieceCells l vts)[k * 2]? = some (.int .i64 l[k].1) ∧ (pieceCells l vts)[k * 2 + 1]? = vts[k]?
  | [], _, _, _, h => by simp at h
  | _ :: _, [], h, _, _ => by simp at h
  | p :: l, v :: vts, hl, k, h => by
    cases k with
    | zero => simp [pieceCells]
    | succ k =>
      obtain ⟨i1, i2⟩ := pieceCells_at l vts (by simpa using hl) k (by simpa using h)
      simp only [pieceCells, show (k + 1) * 2 = k * 2 + 1 + 1 by omega, List.getElem?_cons_succ, List.getElem_cons_succ]
      exact ⟨i1, i2⟩

theorem Try.bs56 (w : World) : (Instr.buildSlice 56 0 #[]).run Try.prog w = .ok (.slice (some ⟨w.heap.size, 0, none⟩) 0 0) (w.alloc (.cells #[] 5)) := by kernel_rfl

set_option maxRecDepth 100000 in
set_option maxHeartbeats 1000000 in
theorem crash_any (fp : Nat → Prop) (b : Nat) (d : DS) (sv : Value) (zs : List Int) (w : World) (hd : DiskAt w fp b d) (hz : Ints w sv zs) :
    Calls Try.prog 29 #[.pointer (some ⟨b, 0, none⟩), sv] w (CrashPost d zs w) := by
  obtain ⟨hlt, hok, vn, vs, vp, vts, hc⟩ := hd
  obtain ⟨ap, capp, hvp, hcapp⟩ := own_form hc.pcs.row
  subst hvp
  have hbs := Try.bs56
  have hbl := hc.hdr.lt
  go_enter Try.func29, Try.ntmps29
  go_wp2_with fail
  refine (new_any _).mono ?_
  rintro e w1 ⟨b', rfl, hb', hd1, ho1, hnew⟩
  have hc1 := hc.other ho1 (fun _ _ h => h)
  obtain ⟨_, c1, c2, _, _, _⟩ := hc1.hdr.cells
  have hs1 := ho1.size
  have hlt1 : b < w1.heap.size := hc1.hdr.lt
  obtain ⟨v', w2, hr, hrow, ho2, hf2⟩ := run_append_row (w1.alloc (.cells #[] 5)) (.slice (some ⟨w1.heap.size, 0, none⟩) 0 0) vs [] d.syn (World.ownsRow_made w1 #[] 0 (Nat.zero_le _) (Nat.zero_le _) rfl) (hc1.syn.other (Only.alloc Nob w1 _) (fun _ _ h => h)) (by have := hok.syn; simp; omega)
  have ho12 : Only Nob w1 w2 := (Only.alloc Nob w1 _).trans ho2 (fun k hk hx => by simp [Blk, Value.ownBlock] at hx; omega)
  have hc2 := hc1.other ho12 (fun _ _ h => h)
  obtain ⟨_, _, e2, _, _, _⟩ := hc2.hdr.cells
  have hf2' : ∀ j, Blk v' j → w.heap.size < j := fun j hj => by
    have hz := hd1.lt w.heap.size (.inr ⟨Nat.le_refl _, by
      obtain ⟨_, _, _, hh⟩ := hd1.hdr
      have := hh.lt
      omega⟩)
    rcases hf2 j hj with h | h
    · simp [Blk, Value.ownBlock] at h; omega
    · simp at h; omega
  have HR : CRel zs d w v' (.int .i64 (0 : Nat)) w2 :=
    ⟨0, d.syn, rfl, Nat.zero_le _, hrow, hok.syn, rfl, ho1.trans ho12 (fun _ _ h => h), hf2', by rw [← hb']; exact hnew.other ho12 (fun h => h)⟩
  go_wp2_with (at_builtin; refine Lib.wpList_append_run _ rfl (.tmp 13) (.tmp 17) 56 56 rfl _ _ rfl rfl _ _ hr ?_)
  clear hr hrow ho2 hf2 ho12 hc1
  go_loopw [6, 25] (fun vc kv wr => CRel zs d w vc kv wr) (fun _ kv _ => d.pcs.length - (intOf kv).toNat)
  case atStart => exact HR
  case round =>
    obtain ⟨k, c, rfl, g1, g2, g3, g4, g5, g6, g7⟩ := hrel
    have hcr := hc.other g5 (fun _ _ h => h)
    have hbr : b < wr.heap.size := hcr.hdr.lt
    have hg5 := g5.size
    by_cases hk : k < d.pcs.length
    · obtain ⟨pg, hpg⟩ : ∃ pg, ap = some ⟨pg, 0, none⟩ := by
        obtain ⟨pg, cp, hv, _, _⟩ := own_form_pos hcr.pcs.row (by omega)
        simp only [Value.slice.injEq] at hv
        exact ⟨pg, hv.1⟩
      subst hpg
      obtain ⟨q1, q2⟩ := pieceCells_at d.pcs vts hcr.pcs.len k hk
      obtain ⟨tv, q3, q4⟩ := hcr.pcs.txt k hk
      rw [q3] at q2
      have r1 := hcr.pcs.row.cells (g := pg) rfl _ _ q1
      have r2 := hcr.pcs.row.cells (g := pg) rfl _ _ q2
      rw [addr_add0] at r1 r2
      obtain ⟨po, hpo⟩ : ∃ po, po = d.pcs[k].1 := ⟨_, rfl⟩
      obtain ⟨pt, hpt⟩ : ∃ pt, pt = d.pcs[k].2 := ⟨_, rfl⟩
      rw [← hpo] at r1
      rw [← hpt] at q4
      have Q := Lib.hid (And.intro hpo hpt)
      clear hpo hpt q1 q2 HR
      have q4' := q4
      obtain ⟨tg, tcap, tcur, te, tfz, rfl, _, _⟩ := q4'
      have hpgl : pg < wr.heap.size := World.block_lt_of_cell? wr _ r1
      have hkm : k ≤ 1677721600000 := Nat.le_trans (Nat.le_of_lt hk) (Nat.le_trans hok.pcs (Nat.mul_le_mul_right 16777216 hok.calls))
      by_cases hkeep : keeps zs k = true
      · have hE : Hid (put c po pt = if keeps zs k then put c d.pcs[k].1 d.pcs[k].2 else c) := by
          rw [if_pos hkeep, ← Q.out.1, ← Q.out.2]; rfl
        have hpt : po + pt.length ≤ 16777216 := by
          have := hok.each _ (List.getElem_mem hk)
          rw [← Q.out.1, ← Q.out.2] at this
          exact this
        have oa : Only Nob wr (wr.alloc (.cells #[.int .i64 po, .slice (some ⟨tg, 0, none⟩) pt.length tcap] 88)) := Only.alloc _ _ _
        have hP := put_any u6 (.slice (some ⟨tg, 0, none⟩) pt.length tcap) po c pt _ (g2.other oa (fun _ _ h => h)) (q4.other oa (fun _ _ h => h)) (fun j hj hx => by
          have h1 := g6 j hx
          have h2 := hlt j (hcr.at' _ (List.mem_of_getElem? q3) j hj).1
          omega) hpt g3
        have HP := Lib.hid hP
        clear hP
        rcases hz with ⟨rfl, sa, scap, rfl⟩ | ⟨hz0, sb, so, scap, rfl, hzl, hzc⟩
        · simp [keeps] at hkeep
        · have hmod := Nat.mod_lt k hz0
          have hz1 := hzc (k % zs.length) hmod
          have hz2 := (g5.cell (World.block_lt_of_cell? w _ hz1) (fun h => h)).trans hz1
          have hne : (((zs.getD (k % zs.length) 0).tmod 2) != 0) = true := by
            simpa only [keeps, hz0, decide_true, Bool.true_and] using hkeep
          have hzp : 1 ≤ zs.length := hz0
          have hsb : sb < wr.heap.size := World.block_lt_of_cell? wr _ hz2
          generalize zs.getD (k % zs.length) 0 = z at hz2 hne
          clear hkeep hzc hz1 hz0
          go_wp2_with (go_at_call 52; refine HP.out.mono ?_; rintro e w4 ⟨v4, rfl, p1, p2, p3⟩)
          go_roundw
          case rel =>
            have o4 : Only (Blk u6) wr w4 := (oa.mono (fun _ _ h => h.elim)).trans p2 (fun _ _ h => h)
            simpa using CRel.step hk hok g3 g4 hE.out p1 (g5.trans o4 (fun i hi hx => by have := g6 i hx; omega)) (fun j hj => by
              rcases p3 j hj with h | h
              · exact g6 j h
              · simp at h; omega) (g7.other o4 (fun h => by have := g6 _ h; omega))
          case measure => simp [intOf]; omega
      · have hE : Hid (c = if keeps zs k then put c d.pcs[k].1 d.pcs[k].2 else c) := by rw [if_neg hkeep]; rfl
        have oa : Only Nob wr (wr.alloc (.cells #[.int .i64 po, .slice (some ⟨tg, 0, none⟩) pt.length tcap] 88)) := Only.alloc _ _ _
        rcases hz with ⟨rfl, sa, scap, rfl⟩ | ⟨hz0, sb, so, scap, rfl, hzl, hzc⟩
        · clear hkeep
          go_wp2
          go_roundw
          case rel => simpa using CRel.step hk hok g3 g4 hE.out (g2.other oa (fun _ _ h => h)) (g5.trans oa (fun _ _ h => h)) g6 (g7.other oa (fun h => h))
          case measure => simp [intOf]; omega
        · have hmod := Nat.mod_lt k hz0
          have hz1 := hzc (k % zs.length) hmod
          have hz2 := (g5.cell (World.block_lt_of_cell? w _ hz1) (fun h => h)).trans hz1
          have hne : (((zs.getD (k % zs.length) 0).tmod 2) != 0) = false := by
            simp only [keeps, hz0, decide_true, Bool.true_and] at hkeep
            simpa using hkeep
          have hzp : 1 ≤ zs.length := hz0
          have hsb : sb < wr.heap.size := World.block_lt_of_cell? wr _ hz2
          generalize zs.getD (k % zs.length) 0 = z at hz2 hne
          clear hkeep hzc hz1 hz0
          go_wp2
          go_roundw
          case rel => simpa using CRel.step hk hok g3 g4 hE.out (g2.other oa (fun _ _ h => h)) (g5.trans oa (fun _ _ h => h)) g6 (g7.other oa (fun h => h))
          case measure => simp [intOf]; omega
    · have hk' : k = d.pcs.length := by omega
      subst hk'
      rw [List.drop_length] at g4
      have G4 : Hid (c = crashF zs d.syn 0 d.pcs) := g4
      clear g4
      obtain ⟨ao, cap, hu6, _⟩ := own_form g2
      obtain ⟨m0, _, _, _, _, _⟩ := g7.cells
      have mf := g7.free
      have hblt := g7.lt
      have hne6 : ¬ Blk u6 w.heap.size := fun x => by have := g6 _ x; omega
      have h8 : Only (Is w.heap.size) wr (wr.setCell ⟨w.heap.size, 0, none⟩ u6) := Only.setCell _ _ _ rfl
      have h7 : Hdr (wr.setCell ⟨w.heap.size, 0, none⟩ u6) w.heap.size u6 (.slice none 0 0) (.slice none 0 0) { DS.new with now := c } := Hdr.set0 g7
      have h9 := Only.alloc Nob (wr.setCell ⟨w.heap.size, 0, none⟩ u6) (.cells #[] 5)
      have g2a : Row ((wr.setCell ⟨w.heap.size, 0, none⟩ u6).alloc (.cells #[] 5)) u6 c := (g2.other h8 (fun k hk hx => hne6 (hx ▸ hk))).other h9 (fun _ _ h => h)
      obtain ⟨v5, w5, hr5, hrow5, ho5, hf5⟩ := run_append_row ((wr.setCell ⟨w.heap.size, 0, none⟩ u6).alloc (.cells #[] 5)) (.slice (some ⟨wr.heap.size, 0, none⟩) 0 0) u6 [] c (by have hm := World.ownsRow_made (base := 0) (e := 5) (size := 1) (wr.setCell ⟨w.heap.size, 0, none⟩ u6) #[] 0 (Nat.zero_le _) (Nat.zero_le _) rfl; simp only [World.size_setCell] at hm; exact hm) g2a (by simp; omega)
      obtain ⟨ao5, cap5, hv5, _⟩ := own_form hrow5
      have h7a : Hdr w5 w.heap.size u6 (.slice none 0 0) (.slice none 0 0) { DS.new with now := c } := (h7.other h9 (fun h => h)).other ho5 (fun x => by simp [Blk, Value.ownBlock] at x; omega)
      obtain ⟨_, n1, _, _, _, _⟩ := h7a.cells
      have nf := h7a.free
      subst hv5
      subst hu6
      go_wp2_with (at_builtin; refine Lib.wpList_append_run _ rfl (.tmp 56) (.tmp 57) 56 56 rfl _ _ rfl rfl _ _ hr5 ?_)
      go_ret
      have G4' := G4.out
      have hz5 := ho5.size
      simp only [World.size_alloc, World.size_setCell] at hz5
      have ow5 : Only (fun k => k = w.heap.size) wr w5 := (h8.mono (fun _ _ h => h)).trans ((h9.mono (fun _ _ h => h.elim)).trans (ho5.mono (T := fun k => k = w.heap.size ∨ wr.heap.size ≤ k) (fun k _ hk => by simp [Blk, Value.ownBlock] at hk; right; omega)) (fun _ _ h => h)) (fun i hi hx => by rcases hx with h | h; exact h; omega)
      have h7b : Hdr (w5.setCell ⟨w.heap.size, 1, none⟩ (.slice ao5 ([] ++ c).length cap5)) w.heap.size (.slice ao c.length cap) (.slice ao5 ([] ++ c).length cap5) (.slice none 0 0) (d.crashed zs) := by
        have := Hdr.set1 (v := .slice ao5 ([] ++ c).length cap5) (l := c) h7a
        rw [show d.crashed zs = { { DS.new with now := c } with syn := c } from by rw [G4']; rfl]
        exact this
      have hb5 : ∀ j, Blk (.slice ao5 ([] ++ c).length cap5) j → wr.heap.size ≤ j := fun j hj => by
        rcases hf5 j hj with h | h
        · simp [Blk, Value.ownBlock] at h; omega
        · simp at h; omega
      have ofin : Only (Is w.heap.size) w5 (w5.setCell ⟨w.heap.size, 1, none⟩ (.slice ao5 ([] ++ c).length cap5)) := Only.setCell _ _ _ rfl
      have oall : Only Nob w (w5.setCell ⟨w.heap.size, 1, none⟩ (.slice ao5 ([] ++ c).length cap5)) := g5.trans (ow5.trans ofin (fun _ _ h => h)) (fun i hi hx => by have : i = w.heap.size := hx; omega)
      have rn : Row w5 (.slice ao c.length cap) c := g2.other ow5 (fun k hk hx => by have := g6 k hk; have : k = w.heap.size := hx; omega)
      refine ⟨w.heap.size, rfl, Nat.le_refl _, ⟨grow_lt (fun _ h => h.elim) oall.size, ⟨?_, ?_, Nat.zero_le _, by show (0 : Nat) ≤ _; omega, (fun h => by cases h), (fun _ h => by cases h)⟩, _, _, _, [], h7b, ?_, ?_, ⟨rfl, World.ownsRow_nil _ _ _ _, (fun i hi => by cases hi)⟩, .inr ⟨Nat.le_refl _, by simp; omega⟩, ?_, ?_, ?_, ?_⟩, oall⟩
      · rw [show (d.crashed zs).now = c from G4'.symm]; exact g3
      · rw [show (d.crashed zs).syn = c from G4'.symm]; exact g3
      · rw [show (d.crashed zs).now = c from G4'.symm]
        exact rn.other ofin (fun k hk hx => by have := g6 k hk; have : k = w.heap.size := hx; omega)
      · rw [show (d.crashed zs).syn = c from G4'.symm]
        exact hrow5.other ofin (fun k hk hx => by have := hb5 k hk; have : k = w.heap.size := hx; omega)
      · intro k hk
        have h1 := g6 k hk
        have h2 := Own.lt g2 hk
        exact ⟨.inr ⟨by omega, by simp; omega⟩, by omega⟩
      · intro k hk
        have h1 := hb5 k hk
        have h2 := Own.lt hrow5 hk
        exact ⟨.inr ⟨by omega, by simp; omega⟩, by omega, fun x => by have := Own.lt g2 x; omega⟩
      · intro k hk
        simp [Blk, Value.ownBlock] at hk
      · intro v hv
        cases hv
end Go.Proofs.Ytdpebdghhgojaaa
