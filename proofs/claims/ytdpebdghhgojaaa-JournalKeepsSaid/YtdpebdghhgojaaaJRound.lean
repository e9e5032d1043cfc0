/- A region that draws its order, in a round of a loop over an iterator: what is shown of it outside a round holds in the round too. No program is looked at. -/
import Derived.Test.YtdpebdghhgojaaaJOpen
import Derived.Deep.RegionHeld3
namespace Go.Proofs.Ytdpebdghhgojaaa

theorem uponIn_round {P : Program} {o : Oper} {a : Act} {next : Act → World → Prop} {Q : Exit → Act → World → Prop} {r : Result Next} (l n : Nat) (h : o.upon P a next Q r) : o.uponIn (Fence.wide.inRound l) n P a next Q r := by
  unfold Oper.upon at h
  unfold Oper.uponIn
  split at h
  · exact h
  · exact h
  · exact h
  · exact ⟨(fun h => nomatch h), CallsIn.inRound l (callsIn_wide.2 h)⟩
  · exact ⟨(fun h => nomatch h), fun c cs _ => let ⟨v, w', r, s⟩ := h c cs; ⟨v, w', r, stepsIn_wide.2 s⟩⟩
  · exact h
  · exact h.elim

theorem wpOpsIn_round {P : Program} {ops : Array Oper} {Q : Exit → Act → World → Prop} (l n : Nat) (hno : ¬ LetsOut Q) (hd : ∀ (i : Nat) (o : Oper), ops[i]? = some o → ∀ c, o.op ≠ .defer c) :
    ∀ (is : List Nat) (a : Act) (w : World), wpOps P ops Q is a w → wpOpsIn (Fence.wide.inRound l) n P ops Q is a w
  | [], _, _, h => h
  | i :: is, a, w, h => by
    unfold wpOps at h
    unfold wpOpsIn
    cases ho : ops[i]? with
    | none => simp only [ho] at h ⊢; exact wpOpsIn_round l n hno hd is a w h
    | some o =>
      simp only [ho] at h ⊢
      by_cases hw : Region.wanted o (yielded ops a.tmps) = true
      · rw [if_pos hw] at h ⊢
        rcases h with h | ⟨_, h⟩
        · refine ⟨fun _ _ => trivial, ?_⟩
          have e : o.semAt (Fence.wide.inRound l).round a.eval = execOp a.eval o := Oper.semAt_some l _ _ (hd i o ho)
          rw [e]
          refine uponIn_round l n ?_
          exact Oper.wp_mono (fun a' w' h' => wpOpsIn_round l n hno hd is a' w' h') h
        · exact absurd h hno
      · rw [if_neg hw] at h ⊢
        exact ⟨fun _ _ => trivial, wpOpsIn_round l n hno hd is _ w h⟩

theorem wpIn_round_held {P : Program} {ops : Array Oper} {Q : Exit → Act → World → Prop} {id : Nat} {a : Act} {w : World} (S : World → Prop) (l n : Nat) (hm : P.follows .mixedOrders = true) (hno : ¬ LetsOut Q) (hd : ∀ (i : Nat) (o : Oper), ops[i]? = some o → ∀ c, o.op ≠ .defer c) (hS : S w.drew)
    (h : S w.drew → wpAnyH P .any ops Q S ops.size (Array.replicate ops.size false) a w.drew) : (Code.region id ops true).wpIn (Fence.wide.inRound l) n P Q a w :=
  wpIn_region_draw fun t => by
    simp only [Region.schedule, hm, Bool.true_or, if_true]
    exact wpOpsIn_round l n hno hd _ _ _ (wpAny_sound ops.size t _ a _ (wpAny_of_held _ _ _ _ (h hS)))

/-- A record was appended to the list, and the journal's numbers were raised. -/
theorem ls_step {N0 b n n0 : Nat} {wD wA : World} {vl : Value} {L : List (List UInt8)} {r : List UInt8} {g cap : Nat} (hls : LS N0 b n n0 wD vl L) (hn0 : n0 + 3 ≤ N0) (hsz : N0 + 5 ≤ wD.heap.size)
    (hrow : Srow wA (.slice (some ⟨g, 0, none⟩) (L.length + 1) cap) (L ++ [r])) (oA : Only (Blk vl) wD wA) (hfr : Blk vl g ∨ wD.heap.size ≤ g) :
    (Boxed wA (N0 + 1) 65 (.pointer (some ⟨N0, 0, none⟩)) ∧ Boxed wA (N0 + 1 + 1) 64 vl ∧ JHdr wA N0 b ⟨L.length, bytesOf L, 64 + n, false⟩) ∧
    LS N0 b n n0 (((wA.setCell ⟨N0 + 1 + 1, 0, none⟩ (.slice (some ⟨g, 0, none⟩) (L.length + 1) cap)).setCell ⟨N0, 1, none⟩ (.int .i64 ((L.length : Int) + 1))).setCell ⟨N0, 2, none⟩ (.int .i64 ((bytesOf L : Int) + ((r.length : Int) + 16)))) (.slice (some ⟨g, 0, none⟩) (L.length + 1) cap) (L ++ [r]) ∧
    Only (fun k => k = N0 ∨ k = N0 + 1 + 1 ∨ Blk vl k) wD (((wA.setCell ⟨N0 + 1 + 1, 0, none⟩ (.slice (some ⟨g, 0, none⟩) (L.length + 1) cap)).setCell ⟨N0, 1, none⟩ (.int .i64 ((L.length : Int) + 1))).setCell ⟨N0, 2, none⟩ (.int .i64 ((bytesOf L : Int) + ((r.length : Int) + 16)))) := by
  have hg : N0 + 5 ≤ g := by
    rcases hfr with h | h
    · exact hls.far g h
    · omega
  have hfar := hls.far
  have pbA : Boxed wA (N0 + 1) 65 (.pointer (some ⟨N0, 0, none⟩)) := (oA.block _ hls.pb.lt (fun h => by have := hfar _ h; omega)).trans hls.pb
  have lbA : Boxed wA (N0 + 1 + 1) 64 vl := (oA.block _ hls.lb.lt (fun h => by have := hfar _ h; omega)).trans hls.lb
  have jhA : JHdr wA N0 b ⟨L.length, bytesOf L, 64 + n, false⟩ := hls.jh.other oA (fun h => by have := hfar _ h; omega)
  have rsA : Res n0 wA none none 0 0 0 := hls.rs.other oA ⟨fun h => by have := hfar _ h; omega, fun h => by have := hfar _ h; omega, fun h => by have := hfar _ h; omega⟩
  refine ⟨⟨pbA, lbA, jhA⟩, ?_, ?_⟩
  · have o1 : Only (Is (N0 + 1 + 1)) wA (wA.setCell ⟨N0 + 1 + 1, 0, none⟩ (.slice (some ⟨g, 0, none⟩) (L.length + 1) cap)) := Only.setCell _ _ _ rfl
    have lb1 := lbA.set (.slice (some ⟨g, 0, none⟩) (L.length + 1) cap)
    generalize wA.setCell ⟨N0 + 1 + 1, 0, none⟩ (.slice (some ⟨g, 0, none⟩) (L.length + 1) cap) = w1 at *
    have o2 : Only (Is N0) w1 ((w1.setCell ⟨N0, 1, none⟩ (.int .i64 ((L.length : Int) + 1))).setCell ⟨N0, 2, none⟩ (.int .i64 ((bytesOf L : Int) + ((r.length : Int) + 16)))) := (Only.setCell (S := Is N0) w1 ⟨N0, 1, none⟩ _ rfl).trans (Only.setCell (S := Is N0) _ ⟨N0, 2, none⟩ _ rfl) (fun _ _ h => h)
    have j1 : JHdr w1 N0 b ⟨L.length, bytesOf L, 64 + n, false⟩ := jhA.other o1 (fun h => by have h : N0 = N0 + 1 + 1 := h; omega)
    have j2 := (j1.many' (L.length + 1)).bytes' (bytesOf L + r.length + 16)
    have e1 : (((L.length + 1 : Nat)) : Int) = (L.length : Int) + 1 := by omega
    have e2 : (((bytesOf L + r.length + 16 : Nat)) : Int) = (bytesOf L : Int) + ((r.length : Int) + 16) := by omega
    rw [e1, e2] at j2
    have hd : ∀ k, k ≠ N0 → ¬ Is N0 k := fun k h e => h e
    have hd2 : ∀ k, k ≠ N0 + 1 + 1 → ¬ Is (N0 + 1 + 1) k := fun k h e => h e
    refine ⟨?_, ?_, ?_, ?_, ?_, ?_⟩
    · rw [bytesOf_snoc, List.length_append]; exact j2
    · exact (o2.block _ (Nat.lt_of_lt_of_le pbA.lt o1.size) (hd _ (by omega))).trans ((o1.block _ pbA.lt (hd2 _ (by omega))).trans pbA)
    · exact (o2.block _ lb1.lt (hd _ (by omega))).trans lb1
    · exact (hrow.other o1 (fun k hk => hd2 k (by have : g = k := by simpa [Blk, Value.ownBlock] using hk
                                                  omega))).other o2 (fun k hk => hd k (by have : g = k := by simpa [Blk, Value.ownBlock] using hk
                                                                                          omega))
    · intro k hk
      have : g = k := by simpa [Blk, Value.ownBlock] using hk
      omega
    · exact (rsA.other o1 ⟨hd2 _ (by omega), hd2 _ (by omega), hd2 _ (by omega)⟩).other o2 ⟨hd _ (by omega), hd _ (by omega), hd _ (by omega)⟩
  · exact (oA.mono (fun _ _ h => .inr (.inr h))).trans ((Only.setCell _ _ _ (.inr (.inl rfl))).trans ((Only.setCell _ _ _ (.inl rfl)).trans (Only.setCell _ _ _ (.inl rfl)) (fun _ _ h => h)) (fun _ _ h => h)) (fun _ _ h => h)

/-- The cells that the last statement reads, behind each of its stores. -/
theorem res_keep {n0 : Nat} {W : World} {a c : Addr} {u v : Value} (ha : W.cell? a = some u) (hc : W.cell? c = some v) (na : n0 + 3 ≤ a.block) (nc : n0 + 3 ≤ c.block) (p : Value) (q : Value) (r : Value) :
    ((W.setCell ⟨n0, 0, none⟩ p).cell? a = some u ∧ (W.setCell ⟨n0, 0, none⟩ p).cell? c = some v) ∧
    (((W.setCell ⟨n0, 0, none⟩ p).setCell ⟨n0 + 1, 0, none⟩ q).cell? a = some u ∧ ((W.setCell ⟨n0, 0, none⟩ p).setCell ⟨n0 + 1, 0, none⟩ q).cell? c = some v) ∧
    ((((W.setCell ⟨n0, 0, none⟩ p).setCell ⟨n0 + 1, 0, none⟩ q).setCell ⟨n0 + 1 + 1, 0, none⟩ r).cell? a = some u ∧ (((W.setCell ⟨n0, 0, none⟩ p).setCell ⟨n0 + 1, 0, none⟩ q).setCell ⟨n0 + 1 + 1, 0, none⟩ r).cell? c = some v) := by
  have far : ∀ (w : World) (m : Nat) (x : Value) (e : Addr) (y : Value), w.cell? e = some y → m ≠ e.block → (w.setCell ⟨m, 0, none⟩ x).cell? e = some y := fun w m x e y h hn => (World.cell?_setCell_far w ⟨m, 0, none⟩ e x hn).trans h
  have a1 := far W n0 p a u ha (by omega)
  have c1 := far W n0 p c v hc (by omega)
  have a2 := far _ (n0 + 1) q a u a1 (by omega)
  have c2 := far _ (n0 + 1) q c v c1 (by omega)
  exact ⟨⟨a1, c1⟩, ⟨a2, c2⟩, ⟨far _ (n0 + 1 + 1) r a u a2 (by omega), far _ (n0 + 1 + 1) r c v c2 (by omega)⟩⟩

theorem items_true {xs : List RecA} (h : ∀ x ∈ xs, x.1.2 = true) : xs.map (·.1) = (recsL xs).map (·, true) := by
  unfold recsL
  rw [List.map_map]
  refine List.map_congr_left (fun x hx => ?_)
  have := h x hx
  obtain ⟨⟨a, b⟩, hx2⟩ := x
  simp at this
  subst this
  rfl

/-- All that the end of Open changes: the results, and the mark of the loop. -/
theorem end_only {n0 N0 D : Nat} {wL W : World} {w3 : World} {o : Obj} (hO : Only (LoopS N0) wL W) (oS : Only (S3 n0) W w3) (hD : N0 + 5 ≤ D) : Only (fun k => LoopS N0 k ∨ S3 n0 k) wL (w3.putObj D o) :=
  (hO.mono (fun _ _ h => .inl h)).trans ((oS.mono (fun _ _ h => .inr h)).trans (only_putObj w3 D o (.inl (.inr (.inr hD)))) (fun _ _ h => h)) (fun _ _ h => h)

theorem end_disk (fp : Nat → Prop) (b : Nat) (d : DS) (w w1 w2 wL W' : World) (hfl : ∀ k, fp k → k < w.heap.size)
    (o0 : Only Nob w (((w.alloc (.cells #[.pointer none] 65)).alloc (.cells #[.slice none 0 0] 64)).alloc (.cells #[.int .i64 0] 44)))
    (o1 : Only fp (((w.alloc (.cells #[.pointer none] 65)).alloc (.cells #[.slice none 0 0] 64)).alloc (.cells #[.int .i64 0] 44)) w1) (o2 : Only Nob w1 w2) (oL : Only Nob w2 wL)
    (d3 : DiskAt wL (grow fp (((w.alloc (.cells #[.pointer none] 65)).alloc (.cells #[.slice none 0 0] 64)).alloc (.cells #[.int .i64 0] 44)) w1) b d)
    (oE : Only (fun k => LoopS w2.heap.size k ∨ S3 w.heap.size k) wL W') :
    DiskAt W' (grow fp (((w.alloc (.cells #[.pointer none] 65)).alloc (.cells #[.slice none 0 0] 64)).alloc (.cells #[.int .i64 0] 44)) w1) b d ∧
    (∀ k, grow fp (((w.alloc (.cells #[.pointer none] 65)).alloc (.cells #[.slice none 0 0] 64)).alloc (.cells #[.int .i64 0] 44)) w1 k → grow fp w W' k ∧ k < w2.heap.size) ∧ Only fp w W' := by
  have hz : (((w.alloc (.cells #[.pointer none] 65)).alloc (.cells #[.slice none 0 0] 64)).alloc (.cells #[.int .i64 0] 44)).heap.size = w.heap.size + 3 := by simp
  generalize ((w.alloc (.cells #[.pointer none] 65)).alloc (.cells #[.slice none 0 0] 64)).alloc (.cells #[.int .i64 0] 44) = wA at *
  have z1 := o1.size
  have z2 := o2.size
  have zL := oL.size
  have zE := oE.size
  have hlt : ∀ k, grow fp wA w1 k → k < w2.heap.size ∧ (k < w.heap.size ∨ w.heap.size + 3 ≤ k) := by
    rintro k (hk | ⟨hk, hk2⟩)
    · have := hfl k hk; exact ⟨by omega, .inl this⟩
    · exact ⟨by omega, .inr (by omega)⟩
  refine ⟨d3.other oE ?_, ?_, ?_⟩
  · intro k hk hx
    obtain ⟨h1, h2⟩ := hlt k hk
    rcases hx with (h | h | h) | (h | h | h) <;> omega
  · intro k hk
    refine ⟨?_, (hlt k hk).1⟩
    rcases hk with hk | ⟨hk, hk2⟩
    · exact .inl hk
    · exact .inr ⟨by omega, by omega⟩
  · exact ((((o0.mono (T := fp) (fun _ _ h => h.elim)).trans o1 (fun _ _ h => h)).trans o2 (fun _ _ h => h.elim)).trans oL (fun _ _ h => h.elim)).trans oE (fun i hi hx => by
      rcases hx with (h | h | h) | (h | h | h) <;> omega)

end Go.Proofs.Ytdpebdghhgojaaa
