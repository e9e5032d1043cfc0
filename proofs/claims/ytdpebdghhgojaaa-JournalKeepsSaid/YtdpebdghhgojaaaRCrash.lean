/- The walk of the reference's Crash. -/
import Derived.Test.YtdpebdghhgojaaaRWrite
import Derived.StillTailTactics
namespace Go.Proofs.Ytdpebdghhgojaaa
open Go.RowKit

def RCRel (zs : List Int) (d : DS) (w : World) (cv kv : Value) (wr : World) : Prop :=
  ∃ (k : Nat) (c : List UInt8), cv = .string ⟨c.toArray⟩ ∧ kv = .int .i64 k ∧ k ≤ d.pcs.length ∧ c.length ≤ 16777216 ∧ crashF zs c k (d.pcs.drop k) = crashF zs d.syn 0 d.pcs ∧ Only Nob w wr

theorem RCRel.step {zs : List Int} {d : DS} {w w' : World} {k : Nat} {c c' : List UInt8} (hk : k < d.pcs.length) (hok : d.Ok) (h3 : c.length ≤ 16777216) (h4 : crashF zs c k (d.pcs.drop k) = crashF zs d.syn 0 d.pcs)
    (e : c' = if keeps zs k then put c d.pcs[k].1 d.pcs[k].2 else c) (ho : Only Nob w w') :
    RCRel zs d w (.string ⟨c'.toArray⟩) (.int .i64 (k + 1 : Nat)) w' := by
  refine ⟨k + 1, c', rfl, rfl, hk, ?_, ?_, ho⟩
  · rw [e]
    have := hok.each _ (List.getElem_mem hk)
    split
    · rw [length_put]; omega
    · exact h3
  · rw [← h4, List.drop_eq_getElem_cons hk, e]
    rfl

theorem crashF_none : ∀ (l : List (Nat × List UInt8)) (c : List UInt8) (k : Nat), crashF [] c k l = c
  | [], _, _ => rfl
  | p :: l, c, k => by simp [crashF, keeps, crashF_none l]

set_option maxRecDepth 100000 in
set_option maxHeartbeats 1000000 in
theorem rcrash_any (fp : Nat → Prop) (b : Nat) (d : DS) (sv : Value) (zs : List Int) (w : World) (hd : RefAt w fp b d) (hz : Ints w sv zs) :
    Calls Try.prog 30 #[.pointer (some ⟨b, 0, none⟩), sv] w (RNewPost (d.crashed zs) w) := by
  obtain ⟨hlt, hok, vp, l, hc⟩ := hd
  obtain ⟨ap, capp, hvp, hcapp⟩ := own_form hc.pcs
  subst hvp
  have hbl := hc.hdr.lt
  obtain ⟨_, c1, c2, _, _, _⟩ := hc.hdr.cells
  go_enter Try.func30, Try.ntmps30
  go_wp2_with fail
  have HR : RCRel zs d w (.string ⟨d.syn.toArray⟩) (.int .i64 (0 : Nat)) w :=
    ⟨0, d.syn, rfl, rfl, Nat.zero_le _, hok.syn, rfl, Only.refl _ _⟩
  have fin : ∀ (c : List UInt8) (wr : World), c = crashF zs d.syn 0 d.pcs → c.length ≤ 16777216 → Only Nob w wr → RNewPost (d.crashed zs) w (.returned (.pointer (some ⟨wr.heap.size, 0, none⟩))) (wr.alloc (.cells #[.string ⟨c.toArray⟩, .string ⟨c.toArray⟩, .slice none 0 0, .int .i64 0, .int .i64 0, .bool false] 85)) := by
    intro c wr hcc hcl ho
    have hl : (wr.alloc (.cells #[.string ⟨c.toArray⟩, .string ⟨c.toArray⟩, .slice none 0 0, .int .i64 0, .int .i64 0, .bool false] 85)).heap[wr.heap.size]? = some (.cells #[.string ⟨c.toArray⟩, .string ⟨c.toArray⟩, .slice none 0 0, .int .i64 0, .int .i64 0, .bool false] 85 (0, 0)) := heap_alloc_new wr _
    have hoa := ho.trans (Only.alloc Nob wr (.cells #[.string ⟨c.toArray⟩, .string ⟨c.toArray⟩, .slice none 0 0, .int .i64 0, .int .i64 0, .bool false] 85)) (fun _ _ h => h)
    have hsz := ho.size
    subst hcc
    refine ⟨wr.heap.size, rfl, ho.size, ⟨grow_lt (fun _ h => h.elim) hoa.size, ⟨hcl, hcl, Nat.zero_le _, by show (0 : Nat) ≤ _; omega, (fun h => by cases h), (fun _ h => by cases h)⟩, .slice none 0 0, 0, hl, World.ownsRow_nil _ _ _ _, .inr ⟨ho.size, by simp⟩, (fun k hk => by simp [Blk, Value.ownBlock] at hk), (fun h => by cases h)⟩, hoa⟩
  have FIN := Lib.hid fin
  clear fin
  go_loopw [5, 6] (fun cv kv wr => RCRel zs d w cv kv wr) (fun _ kv _ => d.pcs.length - (intOf kv).toNat)
  case atStart => exact HR
  case round =>
    obtain ⟨k, c, rfl, rfl, g2, g3, g4, g5⟩ := hrel
    have hcr := hc.other g5 (fun _ _ h => h)
    obtain ⟨_, _, e2, _, _, _⟩ := hcr.hdr.cells
    have hg5 := g5.size
    clear HR c1 c2
    rcases hz with ⟨rfl, sa, scap, rfl⟩ | ⟨hz0, sb, so, scap, rfl, hzl, hzc⟩
    · have G4 := Lib.hid g4
      clear g4
      by_cases hk : k < d.pcs.length
      all_goals
        go_wp2
        go_ret
        refine FIN.out c wr ?_ g3 g5
        have := G4.out
        rwa [crashF_none] at this
    · by_cases hk : k < d.pcs.length
      · obtain ⟨pg, hpg⟩ : ∃ pg, ap = some ⟨pg, 0, none⟩ := by
          obtain ⟨pg, cp, hv, _, _⟩ := own_form_pos hcr.pcs (by omega)
          simp only [Value.slice.injEq] at hv
          exact ⟨pg, hv.1⟩
        subst hpg
        obtain ⟨q1, q2⟩ := rcells_at d.pcs k hk
        have r1 := hcr.pcs.cells (g := pg) rfl _ _ q1
        have r2 := hcr.pcs.cells (g := pg) rfl _ _ q2
        rw [addr_add0] at r1 r2
        obtain ⟨po, hpo⟩ : ∃ po, po = d.pcs[k].1 := ⟨_, rfl⟩
        obtain ⟨pt, hpt⟩ : ∃ pt, pt = d.pcs[k].2 := ⟨_, rfl⟩
        rw [← hpo] at r1
        rw [← hpt] at r2
        have Q := Lib.hid (And.intro hpo hpt)
        have G4 := Lib.hid g4
        clear hpo hpt q1 q2 g4
        have hkm : k ≤ 1677721600000 := Nat.le_trans (Nat.le_of_lt hk) (Nat.le_trans hok.pcs (Nat.mul_le_mul_right 16777216 hok.calls))
        have hmod := Nat.mod_lt k hz0
        have hz1 := hzc (k % zs.length) hmod
        have hz2 := (g5.cell (World.block_lt_of_cell? w _ hz1) (fun h => h)).trans hz1
        have hzp : 1 ≤ zs.length := hz0
        by_cases hkeep : keeps zs k = true
        · have hE : Hid (put c po pt = if keeps zs k then put c d.pcs[k].1 d.pcs[k].2 else c) := by
            rw [if_pos hkeep, ← Q.out.1, ← Q.out.2]; rfl
          have hpt : po + pt.length ≤ 16777216 := by
            have := hok.each _ (List.getElem_mem hk)
            rw [← Q.out.1, ← Q.out.2] at this
            exact this
          have hne : (((zs.getD (k % zs.length) 0).tmod 2) != 0) = true := by
            simpa only [keeps, hz0, decide_true, Bool.true_and] using hkeep
          generalize zs.getD (k % zs.length) 0 = z at hz2 hne
          clear hkeep hzc hz1
          go_wp2_with fail
          go_still_tail 17, (by kernel_rfl)
          change wpList _ _ _ _ _ wr.drew
          have od : Only Nob wr wr.drew := Only.drew _ _
          have HP := Lib.hid (rput_any ⟨c.toArray⟩ ⟨pt.toArray⟩ po wr.drew (by omega) (by simpa [← ByteArray.size_data] using (by omega : pt.length ≤ 16777216)) (by simpa [← ByteArray.size_data] using g3))
          generalize wr.drew = w2 at od HP ⊢
          go_wp2_with (go_at_call 53; refine HP.out.mono ?_; rintro e w4 ⟨rfl, ho4⟩)
          go_roundw
          case rel => simpa using RCRel.step hk hok g3 G4.out hE.out (g5.trans (od.trans ho4 (fun _ _ h => h)) (fun _ _ h => h))
          case measure => simp [intOf]; omega
        · have hE : Hid (c = if keeps zs k then put c d.pcs[k].1 d.pcs[k].2 else c) := by rw [if_neg hkeep]; rfl
          have hne : (((zs.getD (k % zs.length) 0).tmod 2) != 0) = false := by
            simp only [keeps, hz0, decide_true, Bool.true_and] at hkeep
            simpa using hkeep
          generalize zs.getD (k % zs.length) 0 = z at hz2 hne
          clear hkeep hzc hz1
          go_wp2
          go_roundw
          case rel => simpa using RCRel.step hk hok g3 G4.out hE.out g5
          case measure => simp [intOf]; omega
      · have hk' : k = d.pcs.length := by omega
        subst hk'
        rw [List.drop_length] at g4
        have G4 : Hid (c = crashF zs d.syn 0 d.pcs) := g4
        clear g4
        go_wp2
        go_ret
        exact FIN.out c wr G4.out g3 g5
end Go.Proofs.Ytdpebdghhgojaaa
