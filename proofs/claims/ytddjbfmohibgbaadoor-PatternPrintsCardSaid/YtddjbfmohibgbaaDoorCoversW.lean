/- The walk of PatternCovers. -/
import Derived.Test.YtddjbfmohibgbaaDoorSamplesW
import Derived.Test.YtddjbfmohibgbaaDoorNumA
import Derived.Test.YtddjbfmohibgbaaDoorRCovA
namespace Go.Proofs.YtddjbfmohibgbaaDoor
open Go.RowKit

/-- A piece with its text cut short. -/
def cutT (x : Pc) : Pc := ⟨x.c, x.l, x.m, x.t.take 20⟩
def cutP (p : List Pc) (n : Nat) : List Pc := (p.take n).map cutT
theorem cutP_succ (p : List Pc) (n : Nat) (h : n < p.length) : cutP p (n + 1) = cutP p n ++ [cutT p[n]] := by
  unfold cutP; rw [List.take_succ_eq_append_getElem h, List.map_append]; rfl
theorem length_cutP (p : List Pc) (n : Nat) : (cutP p n).length ≤ n := by unfold cutP; simp; omega
theorem cutP_all (p : List Pc) {n : Nat} (h : p.length ≤ n) : cutP p n = cutP p p.length := by unfold cutP; rw [List.take_of_length_le h, List.take_of_length_le (Nat.le_refl _)]
theorem cutP_fair {w : World} {v : Value} {p : List Pc} (h : PcsA w v p) {n : Nat} (hn : n ≤ 10) : Fair (cutP p n) := ⟨Nat.le_trans (length_cutP p n) (by omega), fun x hx => by
  unfold cutP at hx
  obtain ⟨y, hy, rfl⟩ := List.mem_map.1 hx
  obtain ⟨h1, h2, h3, _⟩ := h.2.2 y (List.mem_of_mem_take hy)
  exact ⟨h1, h2, h3, by show (y.t.take 20).length ≤ 1000; simp; omega⟩⟩
theorem PcRow.sett {w : World} {b : Nat} {x : Pc} (h : PcRow w b x) (t : List UInt8) : PcRow (w.setCell ⟨b, 3, none⟩ (.string ⟨t.toArray⟩)) b ⟨x.c, x.l, x.m, t⟩ := heap_setCell_same _ b 3 _ 31 _ h

/-- Between two rounds of the cutting loop. -/
def CutR (w : World) (p : List Pc) (N : Nat) (ov iv : Value) (wr : World) : Prop :=
  ∃ i : Nat, iv = .int .i64 (i : Int) ∧ i ≤ N ∧ i ≤ p.length ∧ OwnP wr ov (cutP p i) ∧ (∀ k, Blk ov k → w.heap.size ≤ k) ∧ Only Nob w wr

set_option maxRecDepth 100000 in
set_option maxHeartbeats 8000000 in
theorem covers_law (v : Value) (l : List Int × List Int) (rv : Value) (raw : List Pc) (w : World) (hl : TwoInts w v l) (hr : PcsA w rv raw) (tab : Tab w) : Calls Tryd.prog 6 #[v, rv] w (BoolPost true w) := by
  obtain ⟨v1, v2, rfl, hl1, hl2⟩ := hl
  obtain ⟨ao, cap, rfl⟩ := hl1.form
  obtain ⟨bo, bcap, rfl⟩ := hl2.form
  obtain ⟨ro, rcap, rfl⟩ := hr.1.form
  have h0 := heap_alloc_new w (.cells #[.slice ao l.1.length cap, .slice bo l.2.length bcap] 36)
  have oB : Only Nob w (w.alloc (.cells #[.slice ao l.1.length cap, .slice bo l.2.length bcap] 36)) := Only.alloc _ _ _
  have HT := Lib.hid tab
  have HL1 := Lib.hid hl1
  have HL2 := Lib.hid hl2
  have HR := Lib.hid hr
  have HB := Lib.hid (And.intro h0 oB)
  clear tab hl1 hl2 hr h0 oB
  go_enter Tryd.func6, Tryd.ntmps6
  go_wp2_with fail
  obtain ⟨w0, hw0⟩ : ∃ w0, w0 = w.alloc (.cells #[.slice ao l.1.length cap, .slice bo l.2.length bcap] 36) := ⟨_, rfl⟩
  rw [← hw0] at HB ⊢
  clear hw0
  refine (sanity_any w0 (HT.out.other HB.out.2)).mono ?_
  rintro e w1 ⟨rfl, o1⟩
  have bx := (o1.block _ (lt_of_heap HB.out.1) (fun h => h)).trans HB.out.1
  have b0 : w1.cell? ⟨w.heap.size, 0, none⟩ = some (.slice ao l.1.length cap) := by simp [World.cell?, bx]
  have O1 := Lib.hid (HB.out.2.nob o1)
  have BX := Lib.hid bx
  clear o1 bx HB
  go_wp2_with fail
  refine (made_law _ l.1 w1 (HL1.out.nob O1.out)).mono ?_
  rintro e w2 ⟨pa, pc, rfl, hp, o2⟩
  have bx2 := (o2.block _ (lt_of_heap BX.out) (fun h => h)).trans BX.out
  have b1 : w2.cell? ⟨w.heap.size, 1, none⟩ = some (.slice bo l.2.length bcap) := by simp [World.cell?, bx2]
  have HP := Lib.hid hp
  have O2 := Lib.hid (O1.out.nob o2)
  clear o2 hp b0 bx2 BX O1
  go_wp2_with fail
  refine (made_law _ l.2 w2 (HL2.out.nob O2.out)).mono ?_
  rintro e w3 ⟨qa, qc, rfl, hq, o3⟩
  have HQ := Lib.hid hq
  have HP3 := Lib.hid (HP.out.nob o3)
  have O3 := Lib.hid (O2.out.nob o3)
  have HB0 := Lib.hid (Only.refl Nob w)
  have HFP := Lib.hid (made_facts l.1).2.2
  have HFQ := Lib.hid (made_facts l.2).2.2
  have CUT := Lib.hid (fun s w h => cut_any s 20 w (by decide) h)
  clear o3 hq HP O2 b1
  generalize madeL l.1 = P at *
  generalize madeL l.2 = Q at *
  go_wp2_with fail
  go_loopw [8, 9] (fun ov iv wr => CutR w3 raw 4 ov iv wr) (fun _ iv _ => 4 - (intOf iv).toNat)
  case atStart => exact ⟨0, rfl, by omega, Nat.zero_le _, OwnP.nil _, fun i h => (by cases h), Only.refl _ _⟩
  case round =>
    obtain ⟨i, rfl, hi4, hir, hown, hnew, hon⟩ := hrel
    obtain ⟨oo, oc, rfl⟩ := hown.form
    have HOW := Lib.hid hown
    have HN := Lib.hid hnew
    have HO := Lib.hid hon
    clear hown hnew hon
    by_cases hlt : i < raw.length
    · by_cases h4 : i < 4
      · have c1 : (i : Int) < (raw.length : Int) := by omega
        have c2 : (i : Int) < 4 := by omega
        obtain ⟨b, off, rfl, hb, e0, e1, e2, e3⟩ := (HR.out.1.nob (O3.out.nob HO.out)).at hlt
        have hst := Lib.hid (cutP_succ raw i hlt)
        have hxr := HR.out.2.2 _ (List.getElem_mem hlt)
        have hcl := length_cutP raw i
        generalize raw[i] = x at *
        obtain ⟨xc, xl, xm, xt⟩ := x
        simp only at e0 e1 e2 e3 hxr
        have oA : Only Nob wr (wr.alloc (.cells #[.int .i64 xc, .int .i64 xl, .int .i64 xm, .string ⟨(xt.take 20).toArray⟩] 31)) := Only.alloc _ _ _
        have hsz : (wr.alloc (.cells #[.int .i64 xc, .int .i64 xl, .int .i64 xm, .string ⟨(xt.take 20).toArray⟩] 31)).heap.size = wr.heap.size + 1 := by simp
        have z5 := PcRow.new (wr.alloc (.cells #[.int .i64 xc, .int .i64 xl, .int .i64 xm, .string ⟨(xt.take 20).toArray⟩] 31)) ⟨xc, xl, xm, xt.take 20⟩
        rw [hsz] at z5
        have oA2 : Only Nob wr ((wr.alloc (.cells #[.int .i64 xc, .int .i64 xl, .int .i64 xm, .string ⟨(xt.take 20).toArray⟩] 31)).alloc (.cells #[.int .i64 xc, .int .i64 xl, .int .i64 xm, .string ⟨(xt.take 20).toArray⟩] 31)) := oA.nob (Only.alloc _ _ _)
        have hownB := HOW.out.other oA2 (fun _ _ h => h)
        have HOB := Lib.hid (HO.out.nob oA2)
        have hlP : (cutP raw i).length ≤ 10000 := by omega
        clear oA oA2 hsz
        go_wp2_with (first | (go_at_call 20; refine (CUT.out _ _ (by omega)).mono ?_; rintro e w' ⟨rfl, rfl⟩) | (at_builtin; refine wpList_append_pc rfl _ _ rfl _ _ rfl hownB _ _ rfl z5 hlP ?_) | fail)
        intro v' w' ho' on' hb'
        have HZ := Lib.hid (show CutR w3 raw 4 v' (.int .i64 ((i : Int) + 1)) w' from by
          refine ⟨i + 1, congrArg (Value.int .i64) (by omega), h4, hlt, by rw [hst.out]; exact ho', fun k hk => ?_, HOB.out.trans on' (fun k hk hx => ?_)⟩
          · rcases hb' k hk with h | h
            · exact HN.out k h
            · have := HO.out.size
              omega
          · have := HN.out k hx
            omega)
        obtain ⟨o3, oc3, rfl⟩ := ho'.form
        clear ho' on' hb'
        go_wp2_with fail
        go_roundw
        case rel => exact HZ.out
        case measure => simp [intOf]; omega
      · have c1 : (i : Int) < (raw.length : Int) := by omega
        have c2 : ¬ (i : Int) < 4 := by omega
        have HPP := Lib.hid (HP3.out.nob HO.out)
        have HQQ := Lib.hid (HQ.out.nob HO.out)
        have HOO := Lib.hid HOW.out.pcs
        have HFO := Lib.hid (cutP_fair HR.out (show i ≤ 10 by omega))
        have HOx := Lib.hid (O3.out.nob HO.out)
        have HCS := Lib.hid (cover_self P)
        clear HP3 HQ HOW HO O3 HN
        generalize cutP raw i = O at *
        have K0 := Lib.hid (coverP_any _ _ P Q wr HPP.out HQQ.out HFP.out HFQ.out (HT.out.other HOx.out))
        go_wp2_with fail
        refine K0.out.mono ?_
        rintro e x0 ⟨rfl, y0⟩
        have X0 := Lib.hid (HOx.out.nob y0)
        have HPP := Lib.hid (HPP.out.nob y0)
        have HQQ := Lib.hid (HQQ.out.nob y0)
        have HOO := Lib.hid (HOO.out.nob y0)
        clear y0 K0
        have K1 := Lib.hid (rcoverP_any _ _ P Q x0 HPP.out HQQ.out HFP.out HFQ.out)
        go_wp2_with fail
        refine K1.out.mono ?_
        rintro e x1 ⟨rfl, y1⟩
        have X1 := Lib.hid (X0.out.nob y1)
        have HPP := Lib.hid (HPP.out.nob y1)
        have HQQ := Lib.hid (HQQ.out.nob y1)
        have HOO := Lib.hid (HOO.out.nob y1)
        clear y1 K1
        have K2 := Lib.hid (coverP_any _ _ Q P x1 HQQ.out HPP.out HFQ.out HFP.out (HT.out.other X1.out))
        go_wp2_with fail
        refine K2.out.mono ?_
        rintro e x2 ⟨rfl, y2⟩
        have X2 := Lib.hid (X1.out.nob y2)
        have HPP := Lib.hid (HPP.out.nob y2)
        have HQQ := Lib.hid (HQQ.out.nob y2)
        have HOO := Lib.hid (HOO.out.nob y2)
        clear y2 K2
        have K3 := Lib.hid (rcoverP_any _ _ Q P x2 HQQ.out HPP.out HFQ.out HFP.out)
        go_wp2_with fail
        refine K3.out.mono ?_
        rintro e x3 ⟨rfl, y3⟩
        have X3 := Lib.hid (X2.out.nob y3)
        have HPP := Lib.hid (HPP.out.nob y3)
        have HQQ := Lib.hid (HQQ.out.nob y3)
        have HOO := Lib.hid (HOO.out.nob y3)
        clear y3 K3
        have K4 := Lib.hid (coverP_any _ _ O Q x3 HOO.out HQQ.out HFO.out HFQ.out (HT.out.other X3.out))
        go_wp2_with fail
        refine K4.out.mono ?_
        rintro e x4 ⟨rfl, y4⟩
        have X4 := Lib.hid (X3.out.nob y4)
        have HPP := Lib.hid (HPP.out.nob y4)
        have HQQ := Lib.hid (HQQ.out.nob y4)
        have HOO := Lib.hid (HOO.out.nob y4)
        clear y4 K4
        have K5 := Lib.hid (rcoverP_any _ _ O Q x4 HOO.out HQQ.out HFO.out HFQ.out)
        go_wp2_with fail
        refine K5.out.mono ?_
        rintro e x5 ⟨rfl, y5⟩
        have X5 := Lib.hid (X4.out.nob y5)
        have HPP := Lib.hid (HPP.out.nob y5)
        have HQQ := Lib.hid (HQQ.out.nob y5)
        have HOO := Lib.hid (HOO.out.nob y5)
        clear y5 K5
        have K6 := Lib.hid (coverP_any _ _ Q O x5 HQQ.out HOO.out HFQ.out HFO.out (HT.out.other X5.out))
        go_wp2_with fail
        refine K6.out.mono ?_
        rintro e x6 ⟨rfl, y6⟩
        have X6 := Lib.hid (X5.out.nob y6)
        have HPP := Lib.hid (HPP.out.nob y6)
        have HQQ := Lib.hid (HQQ.out.nob y6)
        have HOO := Lib.hid (HOO.out.nob y6)
        clear y6 K6
        have K7 := Lib.hid (rcoverP_any _ _ Q O x6 HQQ.out HOO.out HFQ.out HFO.out)
        go_wp2_with fail
        refine K7.out.mono ?_
        rintro e x7 ⟨rfl, y7⟩
        have X7 := Lib.hid (X6.out.nob y7)
        have HPP := Lib.hid (HPP.out.nob y7)
        have HQQ := Lib.hid (HQQ.out.nob y7)
        have HOO := Lib.hid (HOO.out.nob y7)
        clear y7 K7
        have K8 := Lib.hid (coverP_any _ _ P P x7 HPP.out HPP.out HFP.out HFP.out (HT.out.other X7.out))
        rw [HCS.out] at K8
        go_wp2_with fail
        refine K8.out.mono ?_
        rintro e x8 ⟨rfl, y8⟩
        have X8 := Lib.hid (X7.out.nob y8)
        have HPP := Lib.hid (HPP.out.nob y8)
        have HQQ := Lib.hid (HQQ.out.nob y8)
        have HOO := Lib.hid (HOO.out.nob y8)
        clear y8 K8
        have K9 := Lib.hid (rright_any _ P x8 HPP.out HFP.out)
        go_wp2_with fail
        refine K9.out.mono ?_
        rintro e x9 ⟨rfl, y9⟩
        have X9 := Lib.hid (X8.out.nob y9)
        clear y9 K9
        go_wp2_with fail
        go_ret
        exact ⟨rfl, HB0.out.nob X9.out⟩
    · have c1 : ¬ (i : Int) < (raw.length : Int) := by omega
      have HPP := Lib.hid (HP3.out.nob HO.out)
      have HQQ := Lib.hid (HQ.out.nob HO.out)
      have HOO := Lib.hid HOW.out.pcs
      have HFO := Lib.hid (cutP_fair HR.out (show i ≤ 10 by omega))
      have HOx := Lib.hid (O3.out.nob HO.out)
      have HCS := Lib.hid (cover_self P)
      clear HP3 HQ HOW HO O3 HN
      generalize cutP raw i = O at *
      have K0 := Lib.hid (coverP_any _ _ P Q wr HPP.out HQQ.out HFP.out HFQ.out (HT.out.other HOx.out))
      go_wp2_with fail
      refine K0.out.mono ?_
      rintro e x0 ⟨rfl, y0⟩
      have X0 := Lib.hid (HOx.out.nob y0)
      have HPP := Lib.hid (HPP.out.nob y0)
      have HQQ := Lib.hid (HQQ.out.nob y0)
      have HOO := Lib.hid (HOO.out.nob y0)
      clear y0 K0
      have K1 := Lib.hid (rcoverP_any _ _ P Q x0 HPP.out HQQ.out HFP.out HFQ.out)
      go_wp2_with fail
      refine K1.out.mono ?_
      rintro e x1 ⟨rfl, y1⟩
      have X1 := Lib.hid (X0.out.nob y1)
      have HPP := Lib.hid (HPP.out.nob y1)
      have HQQ := Lib.hid (HQQ.out.nob y1)
      have HOO := Lib.hid (HOO.out.nob y1)
      clear y1 K1
      have K2 := Lib.hid (coverP_any _ _ Q P x1 HQQ.out HPP.out HFQ.out HFP.out (HT.out.other X1.out))
      go_wp2_with fail
      refine K2.out.mono ?_
      rintro e x2 ⟨rfl, y2⟩
      have X2 := Lib.hid (X1.out.nob y2)
      have HPP := Lib.hid (HPP.out.nob y2)
      have HQQ := Lib.hid (HQQ.out.nob y2)
      have HOO := Lib.hid (HOO.out.nob y2)
      clear y2 K2
      have K3 := Lib.hid (rcoverP_any _ _ Q P x2 HQQ.out HPP.out HFQ.out HFP.out)
      go_wp2_with fail
      refine K3.out.mono ?_
      rintro e x3 ⟨rfl, y3⟩
      have X3 := Lib.hid (X2.out.nob y3)
      have HPP := Lib.hid (HPP.out.nob y3)
      have HQQ := Lib.hid (HQQ.out.nob y3)
      have HOO := Lib.hid (HOO.out.nob y3)
      clear y3 K3
      have K4 := Lib.hid (coverP_any _ _ O Q x3 HOO.out HQQ.out HFO.out HFQ.out (HT.out.other X3.out))
      go_wp2_with fail
      refine K4.out.mono ?_
      rintro e x4 ⟨rfl, y4⟩
      have X4 := Lib.hid (X3.out.nob y4)
      have HPP := Lib.hid (HPP.out.nob y4)
      have HQQ := Lib.hid (HQQ.out.nob y4)
      have HOO := Lib.hid (HOO.out.nob y4)
      clear y4 K4
      have K5 := Lib.hid (rcoverP_any _ _ O Q x4 HOO.out HQQ.out HFO.out HFQ.out)
      go_wp2_with fail
      refine K5.out.mono ?_
      rintro e x5 ⟨rfl, y5⟩
      have X5 := Lib.hid (X4.out.nob y5)
      have HPP := Lib.hid (HPP.out.nob y5)
      have HQQ := Lib.hid (HQQ.out.nob y5)
      have HOO := Lib.hid (HOO.out.nob y5)
      clear y5 K5
      have K6 := Lib.hid (coverP_any _ _ Q O x5 HQQ.out HOO.out HFQ.out HFO.out (HT.out.other X5.out))
      go_wp2_with fail
      refine K6.out.mono ?_
      rintro e x6 ⟨rfl, y6⟩
      have X6 := Lib.hid (X5.out.nob y6)
      have HPP := Lib.hid (HPP.out.nob y6)
      have HQQ := Lib.hid (HQQ.out.nob y6)
      have HOO := Lib.hid (HOO.out.nob y6)
      clear y6 K6
      have K7 := Lib.hid (rcoverP_any _ _ Q O x6 HQQ.out HOO.out HFQ.out HFO.out)
      go_wp2_with fail
      refine K7.out.mono ?_
      rintro e x7 ⟨rfl, y7⟩
      have X7 := Lib.hid (X6.out.nob y7)
      have HPP := Lib.hid (HPP.out.nob y7)
      have HQQ := Lib.hid (HQQ.out.nob y7)
      have HOO := Lib.hid (HOO.out.nob y7)
      clear y7 K7
      have K8 := Lib.hid (coverP_any _ _ P P x7 HPP.out HPP.out HFP.out HFP.out (HT.out.other X7.out))
      rw [HCS.out] at K8
      go_wp2_with fail
      refine K8.out.mono ?_
      rintro e x8 ⟨rfl, y8⟩
      have X8 := Lib.hid (X7.out.nob y8)
      have HPP := Lib.hid (HPP.out.nob y8)
      have HQQ := Lib.hid (HQQ.out.nob y8)
      have HOO := Lib.hid (HOO.out.nob y8)
      clear y8 K8
      have K9 := Lib.hid (rright_any _ P x8 HPP.out HFP.out)
      go_wp2_with fail
      refine K9.out.mono ?_
      rintro e x9 ⟨rfl, y9⟩
      have X9 := Lib.hid (X8.out.nob y9)
      clear y9 K9
      go_wp2_with fail
      go_ret
      exact ⟨rfl, HB0.out.nob X9.out⟩

end Go.Proofs.YtddjbfmohibgbaaDoor
