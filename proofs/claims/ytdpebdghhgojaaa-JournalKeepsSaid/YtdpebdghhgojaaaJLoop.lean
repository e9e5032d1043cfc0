/- The walk of Open, its loop over the records. -/
import Derived.Test.YtdpebdghhgojaaaJRound
namespace Go.Proofs.Ytdpebdghhgojaaa
open Go.RowKit Go.Shelf

attribute [local go_sem] Oper.semAt_some

set_option maxRecDepth 100000 in
set_option maxHeartbeats 4000000 in
theorem open_loop (fp : Nat → Prop) (b : Nat) (d : DS) (w : World) (hd : DiskAt w fp b d) (hcl : d.calls < 100000) (ho : d.off = false)
    (n : Nat) (hn : valN d.now 8 = n) (hn1 : n ≤ 16777216) (hn2 : n = 0 ∨ 64 + n ≤ d.now.length) :
    Calls Try.prog 40 #[.pointer (some ⟨b, 0, none⟩)] w (OpenPost fp b d n w) := by
  have HX := Lib.hid (show (n : Int) = wrap64 (valN d.now 8) by rw [hn]; unfold wrap64; omega)
  clear hn
  have hnl := hd.ok.now
  refine (callsIn_wide (n := 10)).1 ?_
  refine callsIn_of_wp_marks Try.func40 rfl trivial ?_ rfl
  simp only [Try.ntmps40, List.size_toArray, List.length_cons, List.length_nil, Nat.reduceAdd, Nat.reduceSub, Array.replicate_succ, Array.replicate_zero, List.push_toArray, List.append_toArray, List.nil_append, List.cons_append]
  refine wpIn_wide.2 ?_
  have o0 : Only Nob w (((w.alloc (.cells #[.pointer none] 65)).alloc (.cells #[.slice none 0 0] 64)).alloc (.cells #[.int .i64 0] 44)) := (Only.alloc Nob w _).trans ((Only.alloc Nob _ _).trans (Only.alloc Nob _ _) (fun _ _ h => h)) (fun _ _ h => h)
  have hd0 := hd.other o0 (fun _ _ h => h)
  have r0 := Res.new w none none 0 0 0
  go_wp2_with fail
  refine (sync_on fp b d _ hd0 ho hcl).mono ?_
  rintro r w1 ⟨rfl, d1, o1⟩
  have hfl : ∀ k, fp k → k < w.heap.size := hd.lt
  have r1 := r0.other o1 ⟨fun h => by have := hfl _ h; omega, fun h => by have := hfl _ h; omega, fun h => by have := hfl _ h; omega⟩
  obtain ⟨c2, c3, c4, f2, f3, f4⟩ := r1.cells
  go_wp2_with fail
  refine (read_all _ b 0 8 _ _ d1 (by unfold Rng; omega) (by unfold Rng; omega)).mono ?_
  rintro r w2 ⟨rfl, o2⟩
  have d2 := d1.other o2 (fun _ _ h => h)
  have r2 := r1.other o2 ⟨fun h => h, fun h => h, fun h => h⟩
  have hV : ∀ w, Calls Try.prog 58 #[.string ⟨(d.synced.read 0 8).toArray⟩, .int .i64 8] w fun e w' => e = .returned (.int .i64 n) ∧ w = w' := fun w => by
    have h := value_any ⟨(d.synced.read 0 8).toArray⟩ 8 w (by omega)
    have e1 : wrap64 (valN (⟨(d.synced.read 0 8).toArray⟩ : ByteArray).data.toList 8) = (n : Nat) := by
      show wrap64 (valN ((d.now.drop 0).take 8) 8) = _
      rw [valN_take _ 8 8 (Nat.le_refl _), HX.out]; rfl
    rw [e1] at h; exact h
  have HV := Lib.hid hV
  obtain ⟨c2, c3, c4, f2, f3, f4⟩ := r2.cells
  clear hV d1 r1 r0
  go_wp2_with fail
  refine (HV.out _).mono ?_
  rintro r w' ⟨rfl, rfl⟩
  have hS := Lib.hid (size_any _ b _ _ d2)
  have hnd : d.synced.now.length ≤ 16777216 := hnl
  obtain ⟨L0, hL, oL, cE, cD⟩ := loopW_at w2 b n w.heap.size r2
  have hS := Lib.hid (size_any _ b _ _ d2)
  have hsz := d2.lt
  have x0 : decide ((n : Int) < 0) = false := by rw [decide_eq_false_iff_not]; omega
  have x1 : decide ((16777216 : Int) < n) = false := by rw [decide_eq_false_iff_not]; omega
  have hx2 : n = 0 ∨ (0 < n ∧ decide (((d.synced.now.length : Nat) : Int) < 64 + (n : Int)) = false) := by
    rcases hn2 with h | h
    · exact .inl h
    · by_cases h0 : n = 0
      · exact .inl h0
      · have : d.synced.now = d.now := rfl
        exact .inr ⟨by omega, by rw [this, decide_eq_false_iff_not]; omega⟩
  clear hn2
  have HL := Lib.hid (And.intro L0 (And.intro hL (And.intro oL (And.intro cE cD))))
  clear L0 hL oL cE cD
  rcases hx2 with h | ⟨h, h'⟩
  case' inl =>
    have hz : decide ((0 : Int) < n) = false := by simp; omega
    have hz1 : decide (0 < n) = false := by simp; omega
    clear h
    go_wp2_with fail
    refine (records_any _ _ _).mono ?_
    rintro r wL ⟨rfl, hwL⟩
    obtain rfl : wL = loopW w2 b n := hwL
    go_wp2_with fail
  case' inr =>
    have hz : decide ((0 : Int) < n) = true := by simp; omega
    have hz1 : decide (0 < n) = true := by simp; omega
    go_wp2_with fail
    refine hS.out.mono ?_
    rintro r w' ⟨rfl, rfl⟩
    go_wp2_with fail
    refine (records_any _ _ _).mono ?_
    rintro r wL ⟨rfl, hwL⟩
    obtain rfl : wL = loopW w2 b n := hwL
    go_wp2_with fail
  all_goals
    obtain ⟨L0, hL, oL, cE, cD⟩ := HL.out
    have d3 := d2.other oL (fun _ _ h => h)
    clear HL
    generalize loopW w2 b n = wL at L0 hL oL cE cD d3 ⊢
    refine wpIn_wide.1 (?_ : Code.wpIn Fence.wide 10 _ _ _ _ _)
    refine (?_ : ∀ A : Act, A = _ → Code.wpIn Fence.wide 10 _ _ _ A _) _ rfl
    intro A hA
    refine wpIn_rangeFunc_ownF rfl (by decide) (gf := 66) (lb := #[.pointer (some ⟨w2.heap.size + 1 + 1 + 1 + 1, 0, none⟩), .pointer (some ⟨w2.heap.size + 1 + 1 + 1, 0, none⟩)]) (by rw [hA]; rfl) trivial (enters_of Try.func66 (by kernel_rfl) rfl)
      (recs_stops (w2.heap.size + 1 + 1 + 1 + 1) (w2.heap.size + 1 + 1 + 1) b (64 + n) _ (LoopS w2.heap.size) d.synced wL (by omega) (by omega) hnd d3 ?fp ⟨by omega, ?be⟩ ⟨by omega, ?bd⟩ cE cD)
      (fun h k => h.trans k (fun _ _ h => h)) (fun W l o o' hl _ _ _ => only_putObj W l o' (.inr (.inr (by omega)))) (Below.refl _ _) (fun _ => rfl)
      (OpI w2.heap.size b n w.heap.size wL) (OpX w2.heap.size w.heap.size wL) (opI_own _ _ _ _ _ (by omega)) (opX_own _ _ _ (by omega)) ⟨by simp, ⟨_, L0⟩, Only.refl _ _⟩ (fun x => { tmps := (((A.tmps.setIfInBounds 49 (.string ⟨x.1.1.toArray⟩)).setIfInBounds 50 (.bool x.1.2)).setIfInBounds 9 (.string ⟨x.1.1.toArray⟩)).setIfInBounds 10 (.bool x.1.2), defers := [] }) ?assign ?body ?done ?stop
    case fp =>
      intro k hk hx
      have := hsz k hk
      rcases hx with h | h | h <;> omega
    case be => unfold LoopS; omega
    case bd => unfold LoopS; omega
    case assign =>
      intro l x W K hK
      subst hA
      simp only [List.setIfInBounds_toArray, List.set_cons_zero, List.set_cons_succ] at hK
      dsimp only [recV]
      gi_wp2
      exact hK
    case body =>
      have hn0 : w.heap.size + 3 ≤ w2.heap.size := by have z1 := o1.size; have z2 := o2.size; simp only [World.size_alloc] at z1; omega
      rintro l pre ⟨⟨r, ok⟩, hrl⟩ W ⟨hp, ⟨vl, hls⟩, hO⟩ hlen
      subst hA
      simp only [List.setIfInBounds_toArray, List.set_cons_zero, List.set_cons_succ]
      have hrl' : r.length ≤ 16777216 := hrl
      have hmx : Try.prog.follows .mixedOrders = true := by kernel_rfl
      cases ok
      · obtain ⟨c2, c3, c4, f2, f3, f4⟩ := hls.rs.cells
        have hset := Lib.hid (hls.rs.set none none 0 0 11)
        have hoS := Lib.hid (only_res W w.heap.size none none 0 0 11)
        gi_wp2
        exact ⟨keeps_only hoS.out (fun k hk _ => hls.rs.isCells hk), ⟨rfl, ⟨_, List.mem_append_right _ List.mem_cons_self, rfl⟩, hset.out⟩, (hO.mono (fun _ _ h => .inl h)).trans hoS.out (fun _ _ h => .inr h)⟩
      · have hB := hls.lb.cell
        have hBf := hls.lb.frozen
        obtain ⟨ao, cap, rfl, hcap⟩ := own_form hls.row
        have hlw : (recsL pre).length ≤ 1000000000 := by have := recsL_bytes pre; omega
        gi_wp2
        have hbl : bytesOf (recsL pre) ≤ 300000000000000 := by have := (recsL_bytes pre).1; omega
        refine wpIn_round_held (fun _ => True) l _ hmx (fun ⟨_, _, h⟩ => h) ?nd trivial ?_
        case nd =>
          intro i o ho c
          match i, ho with
          | 0, ho => cases ho; intro h; cases h
          | 1, ho => cases ho; intro h; cases h
          | 2, ho => cases ho; intro h; cases h
          | 3, ho => cases ho; intro h; cases h
          | 4, ho => cases ho; intro h; cases h
          | 5, ho => cases ho; intro h; cases h
          | i + 6, ho => cases ho
        intro hHeld
        refine wpAnyH_take (i := 1) (oi := _) (v := .string ⟨r.toArray⟩) rfl (by kernel_rfl) (by kernel_rfl) (by kernel_rfl) (fun _ _ _ h => h) (Or.inl ⟨by rfl, by intro w hSw; go_simp⟩) (by assumption) ?_
        simp only [Act.put, List.setIfInBounds_toArray]
        refine wpAnyH_ready (rs := [0, 2]) (by kernel_rfl) (by simp) ?_
        refine AllReadyH.cons (o := _) rfl (fun K hK => ?_) ?_
        case' refine_1 =>
          go_simp
          refine hK.out _ _ trivial (fun _ => ?_)
          clear hK K
          try simp only [Act.put, List.setIfInBounds_toArray, List.set_cons_zero, List.set_cons_succ]
          refine wpAnyH_ready (rs := [2]) (by kernel_rfl) (by simp) ?_
          refine AllReadyH.cons (o := _) rfl (fun K hK => ?_) AllReadyH.nil
          go_simp
          refine (clone_any ⟨r.toArray⟩ _ (by simp [ByteArray.size]; omega)).mono ?_
          rintro e wC ⟨rfl, oC⟩
          have hlsC := hls.other ((Only.drew Nob W).trans oC (fun _ _ h => h)) (fun _ _ h => h)
          have hBC := hlsC.lb.cell
          refine hK.out _ _ trivial (fun _ => ?_)
          clear hK K
          try simp only [Act.put, List.setIfInBounds_toArray, List.set_cons_zero, List.set_cons_succ]
          refine wpAnyH_ready (rs := [3]) (by kernel_rfl) (by simp) ?_
          refine AllReadyH.cons (o := _) rfl (fun K hK => ?_) AllReadyH.nil
          go_simp
          refine hK.out _ _ trivial (fun _ => ?_)
          clear hK K
          try simp only [Act.put, List.setIfInBounds_toArray, List.set_cons_zero, List.set_cons_succ]
        case' refine_2 =>
          refine AllReadyH.cons (o := _) rfl (fun K hK => ?_) AllReadyH.nil
          go_simp
          refine (clone_any ⟨r.toArray⟩ _ (by simp [ByteArray.size]; omega)).mono ?_
          rintro e wC ⟨rfl, oC⟩
          have hlsC := hls.other ((Only.drew Nob W).trans oC (fun _ _ h => h)) (fun _ _ h => h)
          have hBC := hlsC.lb.cell
          refine hK.out _ _ trivial (fun _ => ?_)
          clear hK K
          try simp only [Act.put, List.setIfInBounds_toArray, List.set_cons_zero, List.set_cons_succ]
          refine wpAnyH_ready (rs := [0, 3]) (by kernel_rfl) (by simp) ?_
          refine AllReadyH.cons (o := _) rfl (fun K hK => ?_) ?_
          case' refine_1 =>
            go_simp
            refine hK.out _ _ trivial (fun _ => ?_)
            clear hK K
            try simp only [Act.put, List.setIfInBounds_toArray, List.set_cons_zero, List.set_cons_succ]
            refine wpAnyH_ready (rs := [3]) (by kernel_rfl) (by simp) ?_
            refine AllReadyH.cons (o := _) rfl (fun K hK => ?_) AllReadyH.nil
            go_simp
            refine hK.out _ _ trivial (fun _ => ?_)
            clear hK K
            try simp only [Act.put, List.setIfInBounds_toArray, List.set_cons_zero, List.set_cons_succ]
          case' refine_2 =>
            refine AllReadyH.cons (o := _) rfl (fun K hK => ?_) AllReadyH.nil
            go_simp
            refine hK.out _ _ trivial (fun _ => ?_)
            clear hK K
            try simp only [Act.put, List.setIfInBounds_toArray, List.set_cons_zero, List.set_cons_succ]
            have hBD := (hlsC.other (Only.alloc Nob wC (.cells #[.string ⟨r.toArray⟩] 9)) (fun _ _ h => h)).lb.cell
            refine wpAnyH_ready (rs := [0]) (by kernel_rfl) (by simp) ?_
            refine AllReadyH.cons (o := _) rfl (fun K hK => ?_) AllReadyH.nil
            go_simp
            refine hK.out _ _ trivial (fun _ => ?_)
            clear hK K
            try simp only [Act.put, List.setIfInBounds_toArray, List.set_cons_zero, List.set_cons_succ]
        all_goals
          have hlsD := hlsC.other (Only.alloc Nob wC (.cells #[.string ⟨r.toArray⟩] 9)) (fun _ _ h => h)
          have hszD : w2.heap.size + 5 ≤ (wC.alloc (.cells #[.string ⟨r.toArray⟩] 9)).heap.size := by have := hO.size; have := oC.size; simp at this ⊢; omega
          obtain ⟨g', cap', wA, hrun, hrow, oA, hfr⟩ := run_append_str (wC.alloc (.cells #[.string ⟨r.toArray⟩] 9)) 64 _ _ hlsD.row hlw wC.heap.size r (by rw [World.cell?_alloc_new]; rfl)
          obtain ⟨⟨pbA, lbA, jhA⟩, lsF, oF⟩ := ls_step hlsD hn0 hszD hrow oA hfr
          have LSF := Lib.hid (And.intro lsF oF)
          obtain ⟨cj0, cj1, cj2, cj3, cj4⟩ := jhA.cells
          have fj := jhA.free
          have cpb := pbA.cell
          have flb := lbA.frozen
          have clb := lbA.cell
          clear lsF oF cj0 cj3 cj4 hrow oA hfr
          refine wpAnyH_ready (rs := [4]) (by kernel_rfl) (by simp) ?_
          refine AllReadyH.cons (o := _) rfl (fun K hK => ?_) AllReadyH.nil
          refine step_append_run rfl (.tmp 53) (.tmp 56) 64 64 rfl _ _ rfl rfl _ _ hrun ?_
          refine hK.out _ _ trivial (fun _ => ?_)
          clear hK K hrun
          simp only [Act.put, List.setIfInBounds_toArray]
          refine wpAnyH_ready (rs := [5]) (by kernel_rfl) (by simp) ?_
          refine AllReadyH.cons (o := _) rfl (fun K hK => ?_) AllReadyH.nil
          go_simp
          refine hK.out _ _ trivial (fun _ => ?_)
          clear hK K
          refine wpAnyH_done (by kernel_rfl) ?_ _
          gi_wp2
          have oT := ((Only.drew Nob W).trans oC (fun _ _ h => h)).trans (Only.alloc Nob wC (.cells #[.string ⟨r.toArray⟩] 9)) (fun _ _ h => h)
          have oR := (oT.mono (T := fun k => k = w2.heap.size ∨ k = w2.heap.size + 1 + 1 ∨ Blk (.slice ao (recsL pre).length cap) k) (fun _ _ h => h.elim)).trans LSF.out.2 (fun _ _ h => h)
          have hT : ∀ k, (k = w2.heap.size ∨ k = w2.heap.size + 1 + 1 ∨ Blk (.slice ao (recsL pre).length cap) k) → LoopS w2.heap.size k := fun k hk => by
            rcases hk with h | h | h
            · exact .inl h
            · exact .inr (.inl h)
            · exact .inr (.inr (hls.far k h))
          have hC : ∀ k, (k = w2.heap.size ∨ k = w2.heap.size + 1 + 1 ∨ Blk (.slice ao (recsL pre).length cap) k) → k < W.heap.size → ∃ o : Obj, W.heap[k]? = some o ∧ o.isCells = true := fun k hk _ => hls.isCells (by
            rcases hk with h | h | h
            · exact .inl h
            · exact .inr (.inr (.inl h))
            · exact .inr (.inr (.inr (.inl h))))
          have hI : ∀ x ∈ pre ++ [⟨(r, true), hrl⟩], x.1.2 = true := fun x hx => by
            rcases List.mem_append.1 hx with hx | hx
            · exact hp x hx
            · rw [List.mem_singleton] at hx; rw [hx]
          have hL2 := LSF.out.1
          have eL : recsL (pre ++ [⟨(r, true), hrl⟩]) = recsL pre ++ [r] := recsL_snoc pre _
          rw [← eL] at hL2
          exact ⟨keeps_only oR hC, oR.mono (fun k _ hk => hT k hk), hI, ⟨_, hL2⟩, hO.trans oR (fun k _ hk => hT k hk)⟩
    case done =>
      intro D xs W hD hS ⟨hp, ⟨vl, hls⟩, hO⟩ hK
      subst hA
      obtain ⟨ao, cap, rfl, hcap⟩ := own_form hls.row
      have cpb := hls.pb.cell
      have clb := hls.lb.cell
      obtain ⟨c2, c3, c4, f2, f3, f4⟩ := hls.rs.cells
      have HS := Lib.hid hS
      clear hS
      go_wp2
      have hn0 : w.heap.size + 3 ≤ w2.heap.size := by have z1 := o1.size; have z2 := o2.size; simp only [World.size_alloc] at z1; omega
      obtain ⟨k1, k2, k3⟩ := res_keep (n0 := w.heap.size) cpb clb (by show _ ≤ w2.heap.size + 1; omega) (by show _ ≤ w2.heap.size + 1 + 1; omega) (.pointer (some ⟨w2.heap.size, 0, none⟩)) (.slice ao (recsL xs).length cap) (.int .i64 0)
      have K1 := Lib.hid k1
      have K2 := Lib.hid k2
      have K3 := Lib.hid k3
      clear k1 k2 k3
      go_region_held3 (fun w' => w'.cell? ⟨w2.heap.size + 1, 0, none⟩ = some (.pointer (some ⟨w2.heap.size, 0, none⟩)) ∧ w'.cell? ⟨w2.heap.size + 1 + 1, 0, none⟩ = some (.slice ao (recsL xs).length cap)) (first | exact ⟨cpb, clb⟩ | exact K1.out | exact K2.out | exact K3.out) (fail)
      go_wp2
      have hset := (hls.rs.set (some ⟨w2.heap.size, 0, none⟩) ao (recsL xs).length cap 0).other (Only.drew Nob _) ⟨fun h => h, fun h => h, fun h => h⟩
      have oS := (only_res W w.heap.size (some ⟨w2.heap.size, 0, none⟩) ao (recsL xs).length cap 0).trans (Only.drew (S3 w.heap.size) _) (fun _ _ h => h)
      have hcl : ∀ k, S3 w.heap.size k → k < W.heap.size → ∃ o : Obj, W.heap[k]? = some o ∧ o.isCells = true := fun k hk _ => hls.rs.isCells hk
      have hK3 := (keeps_only oS hcl).same D _ hK rfl
      have oE := end_only hO oS (o := .deferred none) (D := D) (by omega)
      obtain ⟨e1, e2, e3⟩ := end_disk fp b d.synced w w1 w2 wL _ hfl o0 o1 o2 oL d3 oE
      have hit : items d.now (64 + n) (64 + n + 1) 64 = (recsL xs).map (·, true) := by rw [← items_true hp, HS.out, itemsA_val]; rfl
      have hne : ∀ k, Blk (.slice ao (recsL xs).length cap) k → k ≠ D := fun k hk e => by
        obtain ⟨o, ho, hc⟩ := srow_cells hls.row hk
        rw [e, hK] at ho
        obtain rfl := Option.some.inj ho
        cases hc
      have hfar := hls.far
      have hD5 : w2.heap.size + 5 ≤ D := by omega
      have j1 := hls.jh.other oS (fun h => by rcases h with h | h | h <;> omega)
      have s1 := hls.row.other oS (fun k hk h => by have := hfar k hk; rcases h with h | h | h <;> omega)
      refine ⟨by simp, .inl ⟨_, _, rfl, run_takeDeferred hK3, ?_⟩⟩
      generalize (((W.setCell ⟨w.heap.size, 0, none⟩ (.pointer (some ⟨w2.heap.size, 0, none⟩))).setCell ⟨w.heap.size + 1, 0, none⟩ (.slice ao (recsL xs).length cap)).setCell ⟨w.heap.size + 1 + 1, 0, none⟩ (.int .i64 0)).drew = W3 at *
      have oD : Only (Is D) W3 (W3.putObj D (.deferred none)) := only_putObj _ _ _ rfl
      have hd : ∀ k, k ≠ D → ¬ Is D k := fun k h e => h e
      exact ⟨_, res40 _ (hset.other oD ⟨hd _ (by omega), hd _ (by omega), hd _ (by omega)⟩) rfl rfl rfl, .inl ⟨recsL xs, hit, w2.heap.size, _, _, rfl, by omega, j1.other oD (hd _ (by omega)), s1.other oD (fun k hk => hd k (hne k hk)), fun k hk => ⟨by have := hfar k hk; omega, by have := hfar k hk; omega, fun h => by have := hfar k hk; have := (e2 k h).2; omega⟩, e1, fun k hk => ⟨(e2 k hk).1, by have := (e2 k hk).2; omega⟩, e3⟩⟩
    case stop =>
      intro D c pre W hD hpre ⟨⟨hc, hx, hres⟩, hO⟩ hK
      subst hc
      subst hA
      gi_wp2
      have oE : Only (fun k => LoopS w2.heap.size k ∨ S3 w.heap.size k) wL (W.putObj D (.deferred none)) := hO.trans (only_putObj W D _ (.inl (.inr (.inr (by omega))))) (fun _ _ h => h)
      obtain ⟨e1, e2, e3⟩ := end_disk fp b d.synced w w1 w2 wL _ hfl o0 o1 o2 oL d3 oE
      have hn0 : w.heap.size + 3 ≤ w2.heap.size := by have z1 := o1.size; have z2 := o2.size; simp only [World.size_alloc] at z1; omega
      have hit : ∃ x ∈ items d.now (64 + n) (64 + n + 1) 64, x.2 = false := by
        obtain ⟨x, hx1, hx2⟩ := hx
        refine ⟨x.1, ?_, hx2⟩
        have e : items d.now (64 + n) (64 + n + 1) 64 = (itemsA d.synced.now hnd (64 + n) (64 + n + 1) 64).map (·.1) := by rw [itemsA_val]; rfl
        rw [e]
        exact List.mem_map_of_mem (hpre.subset hx1)
      refine ⟨by simp, .inl ⟨_, _, rfl, run_takeDeferred hK, ?_⟩⟩
      have oD : Only (Is D) W (W.putObj D (.deferred none)) := only_putObj _ _ _ rfl
      have hd : ∀ k, k ≠ D → ¬ Is D k := fun k h e => h e
      exact ⟨_, res40 _ (hres.other oD ⟨hd _ (by omega), hd _ (by omega), hd _ (by omega)⟩) rfl rfl rfl, .inr ⟨hit, rfl, e1.mono (fun k hk => (e2 k hk).1) (grow_lt hfl e3.size), e3⟩⟩

end Go.Proofs.Ytdpebdghhgojaaa
