/- The walk of PatternSound. -/
import Derived.Test.YtddjbfmohibgbaaDoorWide
import Derived.Test.YtddjbfmohibgbaaDoorCovA
import Derived.Test.YtddjbfmohibgbaaDoorEndA
import Derived.Deep.DeepCutAuto
namespace Go.Proofs.YtddjbfmohibgbaaDoor
open Go.RowKit

/-- Between two rounds of the widening loop. -/
def WdRel (w : World) (Q : List Pc) (wv iv : Value) (wr : World) : Prop :=
  ∃ (i : Nat) (A : List Pc), iv = .int .i64 (i : Int) ∧ i ≤ Q.length ∧ WideP A (Q.take i) ∧ OwnP wr wv (A ++ Q.drop i) ∧ (∀ k, Blk wv k → w.heap.size ≤ k) ∧ Only Nob w wr

/-- How much wider: the number that the law reads for place i. -/
def wdN (u : List UInt8) (i : Nat) : Nat := if u.length = 0 then 0 else (u.getD (i % u.length) 0).toNat % 3

theorem rem_facts (i L : Nat) (h0 : 0 < L) (hi : i ≤ 10) : ∃ e, Hid (i % L = e) ∧ e < L ∧ e ≤ 10 ∧ Hid ((i : Int) % (L : Int) = (e : Int) ∧ (i : Int).tmod (L : Int) = (e : Int) ∧ IntKind.i64.wrap ((i : Int).tmod (L : Int)) = (e : Int)) := by
  have h1 := Nat.mod_lt i h0
  have h4 := Nat.mod_le i L
  have h2 : (i : Int) % (L : Int) = ((i % L : Nat) : Int) := (Int.natCast_emod i L).symm
  have h3 : (i : Int).tmod (L : Int) = ((i % L : Nat) : Int) := (Int.tmod_eq_emod_of_nonneg (Int.natCast_nonneg i)).trans h2
  generalize i % L = e at *
  rw [h3]
  exact ⟨e, rfl, h1, by omega, h2, rfl, IntWalk.i64_in (e : Int) (by omega)⟩

set_option maxRecDepth 100000 in
set_option maxHeartbeats 16000000 in
theorem sound_law (v : Value) (l : List Int × List Int) (tv : Value) (t : List Int) (uv : Value) (u : List UInt8) (w : World) (hl : TwoInts w v l) (ht : IntsA w tv t) (hu : U8sA w uv u) (tab : Tab w) : Calls Tryd.prog 7 #[v, tv, uv] w (BoolPost true w) := by
  obtain ⟨v1, v2, rfl, hl1, hl2⟩ := hl
  obtain ⟨ao, cap, rfl⟩ := hl1.form
  obtain ⟨bo, bcap, rfl⟩ := hl2.form
  obtain ⟨tao, tcap, rfl⟩ := ht.form
  obtain ⟨uo, ucap, rfl⟩ := hu.form
  have h0 := heap_alloc_new w (.cells #[.slice ao l.1.length cap, .slice bo l.2.length bcap] 36)
  have oB : Only Nob w (w.alloc (.cells #[.slice ao l.1.length cap, .slice bo l.2.length bcap] 36)) := Only.alloc _ _ _
  have HT := Lib.hid tab
  have HL1 := Lib.hid hl1
  have HL2 := Lib.hid hl2
  have HI := Lib.hid ht
  have HU := Lib.hid hu
  have HB := Lib.hid (And.intro h0 oB)
  clear tab hl1 hl2 ht hu h0 oB
  go_enter Tryd.func7, Tryd.ntmps7
  go_wp2_with fail
  obtain ⟨w0, hw0⟩ : ∃ w0, w0 = w.alloc (.cells #[.slice ao l.1.length cap, .slice bo l.2.length bcap] 36) := ⟨_, rfl⟩
  rw [← hw0] at HB ⊢
  clear hw0
  refine (sanity_any w0 (HT.out.other HB.out.2)).mono ?_
  rintro e w1 ⟨rfl, o1⟩
  have bx := (o1.block _ (lt_of_heap HB.out.1) (fun h => h)).trans HB.out.1
  have b0 : w1.cell? ⟨w.heap.size, 0, none⟩ = some (.slice ao l.1.length cap) := by simp [World.cell?, bx]
  have O1 := Lib.hid (HB.out.2.nob o1)
  have BX := Lib.hid bx
  clear o1 bx HB
  go_wp2_with fail
  refine (made_law _ l.1 w1 (HL1.out.nob O1.out)).mono ?_
  rintro e w2 ⟨pa, pc, rfl, hp, o2⟩
  have bx2 := (o2.block _ (lt_of_heap BX.out) (fun h => h)).trans BX.out
  have b1 : w2.cell? ⟨w.heap.size, 1, none⟩ = some (.slice bo l.2.length bcap) := by simp [World.cell?, bx2]
  have HP := Lib.hid hp
  have O2 := Lib.hid (O1.out.nob o2)
  clear o2 hp b0 bx2 BX O1
  go_wp2_with fail
  refine (made_any _ l.2 w2 (HL2.out.nob O2.out)).mono ?_
  rintro e w3 ⟨qv, rfl, hq, -, o3⟩
  obtain ⟨qa, qc, rfl⟩ := hq.form
  have HQ := Lib.hid hq
  have HP3 := Lib.hid (HP.out.nob o3)
  have O3 := Lib.hid (O2.out.nob o3)
  clear o3 hq HP O2 b1
  go_wp2_with fail
  refine (sample_law _ _ l.2 t w3 HQ.out.pcs (HI.out.nob O3.out)).mono ?_
  rintro e w4 ⟨rfl, o4⟩
  have HP4 := Lib.hid (HP3.out.nob o4)
  have HQ4 := Lib.hid (HQ.out.other o4 (fun _ _ h => h))
  have O4 := Lib.hid (O3.out.nob o4)
  have HFP := Lib.hid (made_facts l.1).2.2
  have HFQ := Lib.hid (made_facts l.2).2.2
  have HQ5 := Lib.hid (made_facts l.2).1
  have HQS := Lib.hid (show ∀ x ∈ madeL l.2, Small x from fun x hx => small_made ((made_facts l.2).2.1 x hx))
  have hs1 := (sample_facts l.2 t).1
  have HT4 := Lib.hid (HT.out.other O4.out)
  have HU4 := Lib.hid (HU.out.nob O4.out)
  clear o4 HP3 HQ O3 HL1 HL2 HI HT HU
  generalize sampleL (madeL l.2) t = S at *
  generalize madeL l.1 = P at *
  generalize madeL l.2 = Q at *
  have C1 := Lib.hid (coverP_any _ _ P Q w4 HP4.out HQ4.out.pcs HFP.out HFQ.out HT4.out)
  have C2 := Lib.hid (fun w' (o : Only Nob w4 w') => matches_any _ Q S w' (HQ4.out.pcs.nob o) HFQ.out (HT4.out.other o) (by omega))
  have C3 := Lib.hid (fun w' (o : Only Nob w4 w') => matches_any _ P S w' (HP4.out.nob o) HFP.out (HT4.out.other o) (by omega))
  have HSD := Lib.hid (@cover_sound P Q S)
  go_upto_region 5 with fail
  go_cut [37] (fun s37 wx => s37 = .bool false ∧ Only Nob w4 wx)
  case first =>
    cases hc : coverB P Q
    · rw [hc] at C1
      clear hc
      go_wp2_with fail
      refine C1.out.mono ?_
      rintro e x1 ⟨rfl, y1⟩
      have Y1 := Lib.hid y1
      clear y1
      go_wp2_with fail
      go_meet
      exact ⟨rfl, Y1.out⟩
    · rw [hc] at C1
      cases hm : matchB Q S
      · rw [hm] at C2
        clear hm hc
        go_wp2_with fail
        refine C1.out.mono ?_
        rintro e x1 ⟨rfl, y1⟩
        have Y1 := Lib.hid y1
        clear y1
        go_wp2_with fail
        refine (C2.out _ Y1.out).mono ?_
        rintro e x2 ⟨rfl, y2⟩
        have Y2 := Lib.hid (Y1.out.nob y2)
        clear y2
        go_wp2_with fail
        go_meet
        exact ⟨rfl, Y2.out⟩
      · rw [hm] at C2
        rw [HSD.out hc hm] at C3
        clear hm hc
        go_wp2_with fail
        refine C1.out.mono ?_
        rintro e x1 ⟨rfl, y1⟩
        have Y1 := Lib.hid y1
        clear y1
        go_wp2_with fail
        refine (C2.out _ Y1.out).mono ?_
        rintro e x2 ⟨rfl, y2⟩
        have Y2 := Lib.hid (Y1.out.nob y2)
        clear y2
        go_wp2_with fail
        refine (C3.out _ Y2.out).mono ?_
        rintro e x3 ⟨rfl, y3⟩
        have Y3 := Lib.hid (Y2.out.nob y3)
        clear y3
        go_wp2_with fail
        go_meet
        exact ⟨rfl, Y3.out⟩
  case rest =>
    obtain ⟨rfl, hof⟩ := hcut
    have OC := Lib.hid hof
    have HQC := Lib.hid (HQ4.out.other hof (fun _ _ h => h))
    clear hof C1 C2 C3 HSD
    have oA : Only Nob wc (wc.alloc (.cells #[] 31)) := Only.alloc _ _ _
    have hEm : OwnP (wc.alloc (.cells #[] 31)) (.slice (some ⟨wc.heap.size, 0, none⟩) 0 0) [] := ⟨rfl, .inr ⟨wc.heap.size, 0, #[], rfl, Nat.zero_le _, heap_alloc_new _ _, Nat.le_refl _, Nat.zero_le _, rfl, rfl⟩⟩
    have hqA := HQC.out.other oA (fun _ _ h => h)
    have OA := Lib.hid (OC.out.nob oA)
    have HAC := Lib.hid oA
    have hq5 : Q.length ≤ 10000 := Nat.le_trans HQ5.out (by omega)
    clear oA
    go_wp2_with (first | (at_builtin; refine wpList_append_pcs rfl _ _ rfl _ rfl hEm _ Q rfl hqA hq5 ?_) | fail)
    intro v' w' ho' on' hb'
    obtain ⟨oo, oc, rfl⟩ := ho'.form
    have HW0 := Lib.hid (show WdRel wc Q (.slice oo Q.length oc) (.int .i64 (0 : Nat)) w' from by
      refine ⟨0, [], rfl, Nat.zero_le _, trivial, by simpa using ho', fun k hk => ?_, HAC.out.trans on' (fun k hk hx => ?_)⟩
      · rcases hb' k hk with h | h
        · simp [Blk, Value.ownBlock] at h
          omega
        · have := HAC.out.size
          omega
      · simp [Blk, Value.ownBlock] at hx
        omega)
    clear ho' on' hb' hEm hqA
    go_wp2_with fail
    go_loopw [12] (fun iv wr => WdRel wc Q (.slice oo Q.length oc) iv wr) (fun iv _ => Q.length - (intOf iv).toNat)
    case atStart => exact HW0.out
    case round =>
      obtain ⟨i, A, rfl, hi, hwd, hown, hnew, hon⟩ := hrel
      have hq5' := HQ5.out
      have hAl : A.length = i := by rw [wide_len hwd, List.length_take]; omega
      have HO := Lib.hid hon
      have HN := Lib.hid hnew
      have HWD := Lib.hid hwd
      clear hon hnew hwd HW0
      by_cases hlt : i < Q.length
      · have kk : (i : Int) < (Q.length : Int) := by omega
        have hdr : Q.drop i = Q[i] :: Q.drop (i + 1) := List.drop_eq_getElem_cons hlt
        have hsm := HQS.out _ (List.getElem_mem hlt)
        have htk := Lib.hid (show Q.take (i + 1) = Q.take i ++ [Q[i]] from List.take_succ_eq_append_getElem hlt)
        rw [hdr] at hown
        generalize Q[i] = x at *
        obtain ⟨D, hD⟩ : ∃ D, Q.drop (i + 1) = D := ⟨_, rfl⟩
        rw [hD] at hown hdr
        have HDD := Lib.hid hD
        clear hD
        have hWl : (A ++ x :: D).length = Q.length := by
          obtain ⟨_, _, h⟩ := hown.form
          simp only [Value.slice.injEq] at h
          exact h.2.1.symm
        obtain ⟨g, cap', hvq, -, hgb⟩ := own_form_pos hown (by rw [hWl]; omega)
        obtain ⟨rfl, rfl⟩ := (by simp only [Value.slice.injEq] at hvq; exact ⟨hvq.1, hvq.2.2⟩ : oo = some ⟨g, 0, none⟩ ∧ oc = cap')
        have hAi : i < (A ++ x :: D).length := by omega
        have hge : (A ++ x :: D)[i] = x := by simp [hAl]
        obtain ⟨e0, e1, e2, e3⟩ := hown.pcAt hAi
        rw [hge] at e0 e1 e2 e3
        have fz0 := hown.frozen (i * 4)
        have fz1 := hown.frozen (i * 4 + 1)
        have fz2 := hown.frozen (i * 4 + 2)
        have HOWN := Lib.hid hown
        have HGE := Lib.hid hge
        have HAI := Lib.hid hAi
        clear hown hvq hdr hge
        obtain ⟨s1, s2, s3, s4, s5, s6, s7⟩ := hsm
        by_cases hx0 : x.c = 0
        · have HX := Lib.hid (show widen 0 x = x by unfold widen; rw [if_pos hx0])
          rw [hx0] at e0
          clear hx0
          go_wp2_with fail
          go_roundw
          case rel => exact ⟨i + 1, A ++ [x], congrArg (Value.int .i64) (by omega), hlt, by rw [htk.out]; have h := wide_snoc (x := x) HWD.out (Int.le_refl 0); rw [HX.out] at h; exact h, by rw [List.append_assoc, HDD.out]; exact HOWN.out, HN.out, HO.out⟩
          case measure => simp [intOf]; omega
        · by_cases hu0 : 0 < u.length
          · have hu2 : (0 : Int) < (u.length : Int) := by omega
            obtain ⟨ub, uoff, rfl, hub, hucell⟩ := (HU4.out.nob (OC.out.nob HO.out)).pos hu0
            obtain ⟨e, he, heL, he10, hmm⟩ := rem_facts i u.length hu0 (by omega)
            have hLn : ¬ u.length = 0 := by omega
            have hLz : ¬ (u.length : Int) = 0 := by omega
            have hLb : ((u.length : Int) == 0) = false := by simpa using hLn
            have heI : (e : Int) < (u.length : Int) := by omega
            have hce := hucell e heL
            clear hucell
            have h3b : ((u.getD e 0).toNat : Int) % 3 = ((u.getD e 0).toNat % 3 : Nat) := by omega
            have h3c : ((u.getD e 0).toNat : Int).tmod 3 = ((u.getD e 0).toNat % 3 : Nat) := by rw [Int.tmod_eq_emod_of_nonneg (Int.natCast_nonneg _)]; omega
            have hn2 : (u.getD e 0).toNat % 3 ≤ 2 := by omega
            generalize (u.getD e 0).toNat = uc at *
            obtain ⟨n, hn⟩ : ∃ n : Nat, uc % 3 = n := ⟨_, rfl⟩
            rw [hn] at h3b h3c hn2
            have hnw : IntKind.i64.wrap (n : Int) = (n : Int) := IntWalk.i64_in _ (by omega)
            have hnw8 : IntKind.u8.wrap (n : Int) = (n : Int) := by simp [IntKind.wrap, IntKind.signed, IntKind.bits]; omega
            obtain ⟨hm0, hm2, hm3⟩ := hmm.out
            by_cases hn0 : n = 0
            · subst hn0
              have hll : IntKind.i64.wrap x.l = x.l := IntWalk.i64_in _ (by omega)
              have hmm2 : IntKind.i64.wrap x.m = x.m := IntWalk.i64_in _ (by omega)
              obtain ⟨l1, hl1⟩ : ∃ l1, max x.l 0 = l1 := ⟨_, rfl⟩
              obtain ⟨m1, hm1⟩ : ∃ m1, min x.m 200 = m1 := ⟨_, rfl⟩
              have HWX := Lib.hid (show widen 0 x = ⟨x.c, l1, m1, x.t⟩ by unfold widen; rw [if_neg hx0, if_neg (by decide), Int.sub_zero, Int.add_zero, hl1, hm1])
              have o1 := HOWN.out.field (i := i) (j := 1) HAI.out (by decide) (.int .i64 l1) ⟨x.c, l1, x.m, x.t⟩ (by rw [HGE.out]; rfl)
              have o2 := o1.field (i := i) (j := 2) (by rw [List.length_set]; exact HAI.out) (by decide) (.int .i64 m1) ⟨x.c, l1, m1, x.t⟩ (by rw [List.getElem_set_self]; rfl)
              have HF := Lib.hid o2
              have HOF := Lib.hid (show Only Nob wc ((wr.setCell ⟨g, i * 4 + 1, none⟩ (.int .i64 l1)).setCell ⟨g, i * 4 + 2, none⟩ (.int .i64 m1)) from HO.out.trans ((Only.setCell (S := Is g) wr ⟨g, i * 4 + 1, none⟩ _ rfl).trans (Only.setCell (S := Is g) _ ⟨g, i * 4 + 2, none⟩ _ rfl) (fun _ _ h => h)) (fun k hk h => by have h : k = g := h; have := HN.out g rfl; omega))
              clear o1 o2
              go_wp2_with fail
              go_roundw
              case rel =>
                refine ⟨i + 1, A ++ [widen 0 x], congrArg (Value.int .i64) (by omega), hlt, by rw [htk.out]; exact wide_snoc HWD.out (Int.le_refl 0), ?_, HN.out, HOF.out⟩
                rw [HWX.out, List.append_assoc, HDD.out]
                have h := HF.out
                rw [List.set_set, show (A ++ x :: D).set i ⟨x.c, l1, m1, x.t⟩ = A ++ ⟨x.c, l1, m1, x.t⟩ :: D by rw [List.set_append_right _ _ (by omega), show i - A.length = 0 by omega, List.set_cons_zero]] at h
                exact h
              case measure => simp [intOf]; omega
            · have hnp : (0 : Int) < (n : Int) := by omega
              have hnp2 : 0 < n := by omega
              have hll : IntKind.i64.wrap (x.l - (n : Int)) = x.l - (n : Int) := IntWalk.i64_in _ (by omega)
              have hmm2 : IntKind.i64.wrap (x.m + (n : Int)) = x.m + (n : Int) := IntWalk.i64_in _ (by omega)
              obtain ⟨l1, hl1⟩ : ∃ l1, max (x.l - (n : Int)) 0 = l1 := ⟨_, rfl⟩
              obtain ⟨m1, hm1⟩ : ∃ m1, min (x.m + (n : Int)) 200 = m1 := ⟨_, rfl⟩
              have HWX := Lib.hid (show widen (n : Int) x = ⟨7, l1, m1, x.t⟩ by unfold widen; rw [if_neg hx0, if_pos (by omega), hl1, hm1])
              have o1 := HOWN.out.field (i := i) (j := 1) HAI.out (by decide) (.int .i64 l1) ⟨x.c, l1, x.m, x.t⟩ (by rw [HGE.out]; rfl)
              have o2 := o1.field (i := i) (j := 2) (by rw [List.length_set]; exact HAI.out) (by decide) (.int .i64 m1) ⟨x.c, l1, m1, x.t⟩ (by rw [List.getElem_set_self]; rfl)
              have o3 := o2.field (i := i) (j := 0) (by rw [List.length_set, List.length_set]; exact HAI.out) (by decide) (.int .i64 7) ⟨7, l1, m1, x.t⟩ (by rw [List.getElem_set_self]; rfl)
              rw [Nat.add_zero] at o3
              have HF := Lib.hid o3
              have HOF := Lib.hid (show Only Nob wc (((wr.setCell ⟨g, i * 4 + 1, none⟩ (.int .i64 l1)).setCell ⟨g, i * 4 + 2, none⟩ (.int .i64 m1)).setCell ⟨g, i * 4, none⟩ (.int .i64 7)) from HO.out.trans (((Only.setCell (S := Is g) wr ⟨g, i * 4 + 1, none⟩ _ rfl).trans (Only.setCell (S := Is g) _ ⟨g, i * 4 + 2, none⟩ _ rfl) (fun _ _ h => h)).trans (Only.setCell (S := Is g) _ ⟨g, i * 4, none⟩ _ rfl) (fun _ _ h => h)) (fun k hk h => by have h : k = g := h; have := HN.out g rfl; omega))
              clear o1 o2 o3
              go_wp2_with fail
              go_roundw
              case rel =>
                refine ⟨i + 1, A ++ [widen (n : Int) x], congrArg (Value.int .i64) (by omega), hlt, by rw [htk.out]; exact wide_snoc HWD.out (by omega), ?_, HN.out, HOF.out⟩
                rw [HWX.out, List.append_assoc, HDD.out]
                have h := HF.out
                rw [List.set_set, List.set_set, show (A ++ x :: D).set i ⟨7, l1, m1, x.t⟩ = A ++ ⟨7, l1, m1, x.t⟩ :: D by rw [List.set_append_right _ _ (by omega), show i - A.length = 0 by omega, List.set_cons_zero]] at h
                exact h
              case measure => simp [intOf]; omega
          · have hu2 : ¬ (0 : Int) < (u.length : Int) := by omega
            have hll : IntKind.i64.wrap x.l = x.l := IntWalk.i64_in _ (by omega)
            have hmm2 : IntKind.i64.wrap x.m = x.m := IntWalk.i64_in _ (by omega)
            obtain ⟨l1, hl1⟩ : ∃ l1, max x.l 0 = l1 := ⟨_, rfl⟩
            obtain ⟨m1, hm1⟩ : ∃ m1, min x.m 200 = m1 := ⟨_, rfl⟩
            have HWX := Lib.hid (show widen 0 x = ⟨x.c, l1, m1, x.t⟩ by unfold widen; rw [if_neg hx0, if_neg (by decide), Int.sub_zero, Int.add_zero, hl1, hm1])
            have o1 := HOWN.out.field (i := i) (j := 1) HAI.out (by decide) (.int .i64 l1) ⟨x.c, l1, x.m, x.t⟩ (by rw [HGE.out]; rfl)
            have o2 := o1.field (i := i) (j := 2) (by rw [List.length_set]; exact HAI.out) (by decide) (.int .i64 m1) ⟨x.c, l1, m1, x.t⟩ (by rw [List.getElem_set_self]; rfl)
            have HF := Lib.hid o2
            have HOF := Lib.hid (show Only Nob wc ((wr.setCell ⟨g, i * 4 + 1, none⟩ (.int .i64 l1)).setCell ⟨g, i * 4 + 2, none⟩ (.int .i64 m1)) from HO.out.trans ((Only.setCell (S := Is g) wr ⟨g, i * 4 + 1, none⟩ _ rfl).trans (Only.setCell (S := Is g) _ ⟨g, i * 4 + 2, none⟩ _ rfl) (fun _ _ h => h)) (fun k hk h => by have h : k = g := h; have := HN.out g rfl; omega))
            clear o1 o2
            go_wp2_with fail
            go_roundw
            case rel =>
              refine ⟨i + 1, A ++ [widen 0 x], congrArg (Value.int .i64) (by omega), hlt, by rw [htk.out]; exact wide_snoc HWD.out (Int.le_refl 0), ?_, HN.out, HOF.out⟩
              rw [HWX.out, List.append_assoc, HDD.out]
              have h := HF.out
              rw [List.set_set, show (A ++ x :: D).set i ⟨x.c, l1, m1, x.t⟩ = A ++ ⟨x.c, l1, m1, x.t⟩ :: D by rw [List.set_append_right _ _ (by omega), show i - A.length = 0 by omega, List.set_cons_zero]] at h
              exact h
            case measure => simp [intOf]; omega
      · obtain rfl : i = Q.length := by omega
        have hwd := HWD.out
        rw [List.take_length] at hwd
        rw [List.drop_length, List.append_nil] at hown
        have OW := Lib.hid (OC.out.nob HO.out)
        have HFA := Lib.hid (small_fair (p := A) (by rw [hAl]; exact HQ5.out) (wide_small hwd HQS.out))
        have HAP := Lib.hid hown.pcs
        have HQW := Lib.hid (HQC.out.pcs.nob HO.out)
        have HTT := Lib.hid (HT4.out.other OW.out)
        have CV := Lib.hid (@wide_cover A Q hwd)
        have SN := Lib.hid (@cover_sound A Q S)
        have PA := Lib.hid (print_any _ A wr HAP.out HFA.out HTT.out)
        have OR := Lib.hid (O4.out.nob OW.out)
        have RA := Lib.hid (show printS A ≠ [] → rightB A = true from fun h => by
          cases hr : rightB A
          · exact absurd (by unfold printS; rw [hr]; rfl) h
          · rfl)
        have RQ := Lib.hid (show printS Q ≠ [] → rightB Q = true from fun h => by
          cases hr : rightB Q
          · exact absurd (by unfold printS; rw [hr]; rfl) h
          · rfl)
        clear hown hwd HN HU4 HQC HO OC
        have kkn : ¬ (Q.length : Int) < (Q.length : Int) := by omega
        cases hpa : printS A with
        | nil =>
          rw [hpa] at PA
          clear hpa
          go_wp2_with fail
          refine PA.out.mono ?_
          rintro e x1 ⟨rfl, y1⟩
          have Y1 := Lib.hid (OR.out.nob y1)
          clear y1
          go_wp2_with fail
          go_ret
          exact ⟨rfl, Y1.out⟩
        | cons ca csa =>
          have hrA := RA.out (by rw [hpa]; simp)
          rw [hpa] at PA
          clear hpa RA
          go_wp2_with fail
          refine PA.out.mono ?_
          rintro e x1 ⟨rfl, y1⟩
          have Y1 := Lib.hid y1
          have PQ := Lib.hid (print_any _ Q x1 (HQW.out.nob y1) HFQ.out (HTT.out.other y1))
          clear y1 PA
          cases hpq : printS Q with
          | nil =>
            rw [hpq] at PQ
            clear hpq
            go_wp2_with fail
            refine PQ.out.mono ?_
            rintro e x2 ⟨rfl, y2⟩
            have Y2 := Lib.hid (OR.out.nob (Y1.out.nob y2))
            clear y2
            go_wp2_with fail
            go_ret
            exact ⟨rfl, Y2.out⟩
          | cons cq csq =>
            have hrQ := RQ.out (by rw [hpq]; simp)
            rw [hpq] at PQ
            clear hpq RQ
            have hcv := CV.out hrA hrQ
            have SN2 := Lib.hid (SN.out hcv)
            clear hrA hrQ SN CV
            go_wp2_with fail
            refine PQ.out.mono ?_
            rintro e x2 ⟨rfl, y2⟩
            have Y2 := Lib.hid (Y1.out.nob y2)
            clear y2 PQ Y1
            have CC := Lib.hid (coverP_any _ _ A Q x2 (HAP.out.nob Y2.out) (HQW.out.nob Y2.out) HFA.out HFQ.out (HTT.out.other Y2.out))
            rw [hcv] at CC
            clear hcv
            go_wp2_with fail
            refine CC.out.mono ?_
            rintro e x3 ⟨rfl, y3⟩
            have Y3 := Lib.hid (Y2.out.nob y3)
            clear y3 CC Y2
            have MQ := Lib.hid (matches_any _ Q S x3 (HQW.out.nob Y3.out) HFQ.out (HTT.out.other Y3.out) (by omega))
            cases hm : matchB Q S
            · rw [hm] at MQ
              clear hm
              go_wp2_with fail
              refine MQ.out.mono ?_
              rintro e x4 ⟨rfl, y4⟩
              have Y4 := Lib.hid (OR.out.nob (Y3.out.nob y4))
              clear y4
              go_wp2_with fail
              go_ret
              exact ⟨rfl, Y4.out⟩
            · have hma := SN2.out hm
              rw [hm] at MQ
              clear hm
              go_wp2_with fail
              refine MQ.out.mono ?_
              rintro e x4 ⟨rfl, y4⟩
              have Y4 := Lib.hid (Y3.out.nob y4)
              clear y4 MQ Y3
              have MA := Lib.hid (matches_any _ A S x4 (HAP.out.nob Y4.out) HFA.out (HTT.out.other Y4.out) (by omega))
              rw [hma] at MA
              clear hma
              go_wp2_with fail
              refine MA.out.mono ?_
              rintro e x5 ⟨rfl, y5⟩
              have Y5 := Lib.hid (OR.out.nob (Y4.out.nob y5))
              clear y5
              go_wp2_with fail
              go_ret
              exact ⟨rfl, Y5.out⟩

end Go.Proofs.YtddjbfmohibgbaaDoor
