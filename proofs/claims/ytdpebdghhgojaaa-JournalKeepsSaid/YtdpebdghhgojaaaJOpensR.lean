/- The walk of the reference's Opens. -/
import Derived.Test.YtdpebdghhgojaaaJSame
import Derived.BigRegion
namespace Go.Proofs.Ytdpebdghhgojaaa
open Go.RowKit

theorem Try.bs64 (w : World) : (Instr.buildSlice 64 0 #[]).run Try.prog w = .ok (.slice (some ⟨w.heap.size, 0, none⟩) 0 0) (w.alloc (.cells #[] 9)) := by kernel_rfl

theorem Srow.empty (w : World) : Srow (w.alloc (.cells #[] 9)) (.slice (some ⟨w.heap.size, 0, none⟩) 0 0) [] :=
  ⟨rfl, .inr ⟨w.heap.size, 0, #[], rfl, Nat.zero_le _, heap_alloc_new w _, Nat.le_refl _, by decide, rfl, rfl⟩⟩

/-- The list was made anew, and the numbers were reset. -/
theorem opens_mid {fp : Nat → Prop} {w wX w3 : World} {rb : Nat} {rs : RS} {v' : Value} {l : List (List UInt8)} (h : RJ w fp rb rs) (oX : Only Nob w wX) (o3 : Only (fun k => k = wX.heap.size) (wX.alloc (.cells #[] 9)) w3) (r3 : Srow w3 v' l) (f3 : ∀ k, Blk v' k → k = wX.heap.size ∨ wX.heap.size + 1 ≤ k) :
    (∃ u0 u1 u2 u3, w3.heap[rb]? = some (.cells #[u0, u1, u2, u3] 74 (0, 0))) ∧
    RIn ((((w3.setCell ⟨rb, 0, none⟩ v').setCell ⟨rb, 2, none⟩ (.bool false)).setCell ⟨rb, 1, none⟩ (.slice none 0 0)).setCell ⟨rb, 3, none⟩ (.int .i64 0))
      (grow fp w ((((w3.setCell ⟨rb, 0, none⟩ v').setCell ⟨rb, 2, none⟩ (.bool false)).setCell ⟨rb, 1, none⟩ (.slice none 0 0)).setCell ⟨rb, 3, none⟩ (.int .i64 0))) rb v' (.slice none 0 0) ⟨l, [], false, 0⟩ ∧
    Only fp w ((((w3.setCell ⟨rb, 0, none⟩ v').setCell ⟨rb, 2, none⟩ (.bool false)).setCell ⟨rb, 1, none⟩ (.slice none 0 0)).setCell ⟨rb, 3, none⟩ (.int .i64 0)) := by
  obtain ⟨vL, vM, h⟩ := h
  have hrb := lt_of_heap h.hdr
  have oA : Only Nob w (wX.alloc (.cells #[] 9)) := oX.trans (Only.alloc Nob _ _) (fun _ _ h => h)
  have zX := oX.size
  have z3 := o3.size
  have hd3 : w3.heap[rb]? = some (.cells #[vL, vM, .bool rs.broken, .int .i64 rs.bytes] 74 (0, 0)) := by
    have h2 := (oA.block _ hrb (fun h => h)).trans h.hdr
    exact (o3.block _ (lt_of_heap h2) (fun e => by have e : rb = wX.heap.size := e; omega)).trans h2
  have o03 : Only fp w w3 := (oA.mono (T := fp) (fun _ _ h => h.elim)).trans o3 (fun i hi e => by have e : i = wX.heap.size := e; omega)
  have q0 := heap_setCell_same w3 rb 0 _ 74 v' hd3
  have p0 : Only (Is rb) w3 (w3.setCell ⟨rb, 0, none⟩ v') := Only.setCell _ _ _ rfl
  generalize w3.setCell ⟨rb, 0, none⟩ v' = w4 at *
  have q1 := heap_setCell_same w4 rb 2 _ 74 (.bool false) q0
  have p1 : Only (Is rb) w4 (w4.setCell ⟨rb, 2, none⟩ (.bool false)) := Only.setCell _ _ _ rfl
  generalize w4.setCell ⟨rb, 2, none⟩ (.bool false) = w5 at *
  have q2 := heap_setCell_same w5 rb 1 _ 74 (.slice none 0 0) q1
  have p2 : Only (Is rb) w5 (w5.setCell ⟨rb, 1, none⟩ (.slice none 0 0)) := Only.setCell _ _ _ rfl
  generalize w5.setCell ⟨rb, 1, none⟩ (.slice none 0 0) = w6 at *
  have q3 := heap_setCell_same w6 rb 3 _ 74 (.int .i64 0) q2
  have p3 : Only (Is rb) w6 (w6.setCell ⟨rb, 3, none⟩ (.int .i64 0)) := Only.setCell _ _ _ rfl
  generalize w6.setCell ⟨rb, 3, none⟩ (.int .i64 0) = w7 at *
  have pall : Only (Is rb) w3 w7 := p0.trans (p1.trans (p2.trans p3 (fun _ _ h => h)) (fun _ _ h => h)) (fun _ _ h => h)
  have z7 := pall.size
  simp only [World.size_alloc] at z3
  have hne : ∀ k, Blk v' k → k ≠ rb := fun k hk => by rcases f3 k hk with h | h <;> omega
  have oall : Only fp w w7 := o03.trans pall (fun k _ hk => by obtain rfl : k = rb := hk; exact h.hb)
  refine ⟨⟨_, _, _, _, hd3⟩, ⟨q3, r3.other pall hne, Srow.nil _, .inl h.hb, fun k hk => ⟨.inr ⟨by rcases f3 k hk with h | h <;> omega, by have := r3.lt hk; omega⟩, hne k hk⟩, fun k hk => by simp [Blk, Value.ownBlock] at hk, grow_lt h.lt oall.size⟩, oall⟩

/-- The loop that adds up the sizes. -/
def OpensRel (w : World) (fp fW : Nat → Prop) (rb : Nat) (v' vl : Value) (l : List (List UInt8)) (iv : Value) (wr : World) : Prop :=
  ∃ k : Nat, iv = .int .i64 k ∧ k ≤ l.length ∧ RIn wr fW rb v' (.slice none 0 0) ⟨l, [], false, sumB (l.take k)⟩ ∧ Srow wr vl l ∧ Only fp w wr ∧ fW = grow fp w wr

set_option maxRecDepth 100000 in
set_option maxHeartbeats 2000000 in
theorem opens_same (fp : Nat → Prop) (rb : Nat) (rs : RS) (vl : Value) (w : World) (h : RJ w fp rb rs) (hl : Srow w vl rs.L) (hn : ∀ k, Blk vl k → ¬ fp k) (hlen : rs.L.length ≤ 100000000) (hsum : sumB rs.L ≤ 1000000000000000) :
    Calls Try.prog 46 #[.pointer (some ⟨rb, 0, none⟩), vl] w (RJPost fp rb ⟨rs.L, [], false, sumB rs.L⟩ (.bool true) w) := by
  have hJ := h
  obtain ⟨vL, vM, hi⟩ := h
  obtain ⟨c0, c1, c2, c3, f⟩ := hi.cells
  obtain ⟨al, cl, rfl, _⟩ := own_form hl
  have hS := Lib.hid (same_yes _ vL rs.L w hl.strs hi.rL.strs (by omega))
  have hbs := Try.bs64
  have HJ0 := Lib.hid (And.intro (lt_of_heap hi.hdr) hi.hb)
  clear c1 c2 c3
  go_enter Try.func46, Try.ntmps46
  go_wp2_with fail
  refine hS.out.mono ?_
  rintro e wX ⟨rfl, oX⟩
  obtain ⟨v', w3, hrun, hrow, oA, hfr⟩ := run_append_srow (wX.alloc (.cells #[] 9)) (.slice (some ⟨wX.heap.size, 0, none⟩) 0 0) (.slice al rs.L.length cl) [] rs.L (Srow.empty wX) ((hl.other oX (fun _ _ h => h)).other (Only.alloc Nob _ _) (fun _ _ h => h)) (by simp; omega)
  rw [List.nil_append] at hrow
  have oA' : Only (fun k => k = wX.heap.size) (wX.alloc (.cells #[] 9)) w3 := oA.mono (fun k _ hk => by
    have : wX.heap.size = k := by simpa [Blk, Value.ownBlock] using hk
    omega)
  have hfr' : ∀ k, Blk v' k → k = wX.heap.size ∨ wX.heap.size + 1 ≤ k := fun k hk => by
    rcases hfr k hk with h | h
    · left; have : wX.heap.size = k := by simpa [Blk, Value.ownBlock] using h
      omega
    · right; simpa using h
  obtain ⟨⟨u0, u1, u2, u3, hd3⟩, hR, oR⟩ := opens_mid hJ oX oA' hrow hfr'
  have q0 : w3.cell? ⟨rb, 0, none⟩ = some u0 := by simp [World.cell?, hd3]
  have q1 : w3.cell? ⟨rb, 1, none⟩ = some u1 := by simp [World.cell?, hd3]
  have q2 : w3.cell? ⟨rb, 2, none⟩ = some u2 := by simp [World.cell?, hd3]
  have q3 : w3.cell? ⟨rb, 3, none⟩ = some u3 := by simp [World.cell?, hd3]
  have qf : ∀ i, w3.frozen? ⟨rb, i, none⟩ = false := by simp [World.frozen?, hd3]
  obtain ⟨ao, cap, rfl, _⟩ := own_form hrow
  have HR := Lib.hid hR
  have HO := Lib.hid oR
  clear hR oR hd3 hrow oA oA' hfr hfr' c0 f hJ
  go_wp2_with (at_builtin; refine Lib.wpList_append_run _ rfl (.tmp 52) (.tmp 53) 64 64 rfl _ _ rfl rfl _ _ hrun ?_)
  have HL := Lib.hid hl
  clear q0 q1 q2 q3 qf hrun hl
  go_loopw [6] (fun iv wr => ∃ fW, OpensRel w fp fW rb (.slice ao ([] ++ rs.L).length cap) (.slice al rs.L.length cl) rs.L iv wr) (fun iv _ => rs.L.length - (intOf iv).toNat)
  case atStart =>
    refine ⟨_, 0, rfl, Nat.zero_le _, HR.out, HL.out.other HO.out (fun k hk hx => hn k hk hx), HO.out, rfl⟩
  case round =>
    obtain ⟨fW, k, rfl, g1, g2, g3, g4, g5⟩ := hrel
    by_cases hk : k < rs.L.length
    · obtain ⟨pg, hpg⟩ : ∃ pg, al = some ⟨pg, 0, none⟩ := by
        obtain ⟨pg, cp, hv, _, _⟩ := own_form_pos g3 (by omega)
        simp only [Value.slice.injEq] at hv
        exact ⟨pg, hv.1⟩
      subst hpg
      obtain ⟨b1, o1, c1, e1, e2⟩ := strs_at g3.strs hk
      simp only [Value.slice.injEq, Option.some.injEq, Addr.mk.injEq] at e1
      obtain ⟨⟨rfl, rfl, _⟩, _, rfl⟩ := e1
      rw [Nat.zero_add] at e2
      unfold SV at e2
      obtain ⟨_, _, _, x3, xf⟩ := g2.cells
      have y3 := xf 3
      have h0 : (0 : Int) ≤ (k : Int) := by omega
      have hk2 : (k : Int) < (rs.L.length : Int) := by omega
      have hst := sumB_take rs.L k hk
      have hle := sumB_le rs.L (k + 1)
      have hlb : rs.L[k].length ≤ 1000000000000000 := by omega
      have hsb : sumB (rs.L.take k) ≤ 1000000000000000 := by omega
      have HST := Lib.hid hst
      have hne : pg ≠ rb := fun e => hn pg rfl (e ▸ HJ0.out.2)
      have hrbl : rb < w.heap.size := HJ0.out.1
      simp only [] at x3
      clear hst hle xf
      generalize hrk : rs.L[k] = rk at e2 hlb HST
      clear hrk
      go_wp2
      go_region
      all_goals
        have hcast : (sumB (rs.L.take k) : Int) + (rk.length : Int) + 16 = ((sumB (rs.L.take (k + 1)) : Nat) : Int) := by rw [HST.out]; omega
        have HC := Lib.hid hcast
        clear hcast
        go_wp2
        go_roundw
        case rel =>
          rw [HC.out]
          have o9 : Only (Is rb) wr (wr.setCell ⟨rb, 3, none⟩ (.int .i64 ((sumB (rs.L.take (k + 1)) : Nat) : Int))) := Only.setCell _ _ _ rfl
          subst g5
          have R9 := rin_bytes g2 (sumB (rs.L.take (k + 1)))
          have hs9 : (wr.setCell ⟨rb, 3, none⟩ (.int .i64 ((sumB (rs.L.take (k + 1)) : Nat) : Int))).heap.size = wr.heap.size := by simp
          exact ⟨_, k + 1, by simp, hk, R9.other (Only.drew Nob _) (fun _ _ h => h), (g3.other o9 (fun j hj hx => hne (by
            have h1 : pg = j := by simpa [Blk, Value.ownBlock] using hj
            have h2 : j = rb := hx
            omega))).other (Only.drew Nob _) (fun _ _ h => h), (g4.trans o9 (fun i _ hx => by obtain rfl : i = rb := hx; exact HJ0.out.2)).trans (Only.drew _ _) (fun _ _ h => h), rfl⟩
        case measure => simp [intOf]; omega
    · go_wp2
      go_ret
      have hkl : k = rs.L.length := by omega
      subst hkl
      rw [List.take_length] at g2
      rw [g5] at g2
      exact ⟨by simp, ⟨_, _, g2⟩, g4⟩

end Go.Proofs.Ytdpebdghhgojaaa
