/- The walk of JournalCrashes. -/
import Derived.Test.YtdpebdghhgojaaaJSameW
import Derived.Test.YtdpebdghhgojaaaJFullW
namespace Go.Proofs.Ytdpebdghhgojaaa
open Go.RowKit

/-- The loop of JournalCrashes. -/
def CrRel (W : World) (rb n : Nat) (iv dv jv ev : Value) (wr : World) : Prop :=
  ∃ (k b jb : Nat) (fd fr : Nat → Prop) (d : DS) (L : List (List UInt8)), iv = .int .i64 k ∧ dv = .pointer (some ⟨b, 0, none⟩) ∧ jv = .pointer (some ⟨jb, 0, none⟩) ∧ ev = .int .i64 0 ∧ k ≤ n ∧ k ≤ 20 ∧ Both W wr fd fr jb b rb (jsOf L) d ⟨L, [], false, bytesOf L⟩ ∧ Clean d L ∧ d.fail = false ∧ d.calls ≤ 1 + 5 * k ∧ bytesOf L ≤ 216 * k ∧ L.length ≤ k

set_option maxRecDepth 100000 in
set_option maxHeartbeats 4000000 in
theorem crashes_walkJ (vl : Value) (l : List (List UInt8)) (vf : Value) (fs : List Int) (sv : Value) (zs : List Int) (w : World) (hl : StrsA w vl l) (hf : U8s w vf fs) (hs : Ints w sv zs) :
    Calls Try.prog 14 #[vl, vf, sv] w fun e w' => e = .returned (.bool true) ∧ Only Nob w w' := by
  obtain ⟨hl, hl2, hl3⟩ := hl
  obtain ⟨al, cl, rfl⟩ := hl.form
  obtain ⟨af, cf, rfl, hf3⟩ := hf.form
  go_enter Try.func14, Try.ntmps14
  go_wp2_with fail
  refine (jsanity_any _).mono ?_
  rintro e w0 ⟨rfl, o0⟩
  have hl0 := Lib.hid (hl.other o0 (fun _ _ _ _ _ h => h))
  have hs0 := Lib.hid (hs.other o0 (fun _ _ _ _ _ h => h))
  have hf0 := Lib.hid (hf.other o0 (fun _ _ _ _ _ h => h))
  have HL2 := Lib.hid hl2
  clear hl hl2 hs hf
  go_wp2_with fail
  refine (new_any _).mono ?_
  rintro e w1 ⟨b, rfl, -, d1, o1, -⟩
  go_wp2_with fail
  refine (opened_any _ b _ [] _ d1 (by decide) rfl holds_new).mono ?_
  rintro e w2 ⟨jb, ao, cap, fp2, rfl, p1, p2, j2, r2, f2, d2, f2', n2, o2⟩
  have a2 := JAt.opened ((After.nob w0).grow (b := w1) (Nat.le_refl _)) o1 j2 p1 d2 f2' o2
  have l2 := (clean_synced holds_new).1
  clear d1 o1 j2 p1 d2 f2' o2 p2 r2 f2 n2
  go_wp2_with fail
  refine (rnewj_any _).mono ?_
  rintro e w3 ⟨rfl, r3, o3⟩
  have b3 : Both w0 w3 fp2 (grow Nob w2 w3) jb b w2.heap.size _ _ _ := ⟨a2.quiet o3, r3, (After.nob w0).grow a2.on.size, fun k hk hx => by
    rcases hk with hk | ⟨hk, _⟩
    · exact hk.elim
    · rcases hx with hx | rfl
      · have := a2.dk.lt k hx; omega
      · have := a2.jh.lt; omega⟩
  have HR : CrRel w0 w2.heap.size l.length (.int .i64 (0 : Nat)) (.pointer (some ⟨b, 0, none⟩)) (.pointer (some ⟨jb, 0, none⟩)) (.int .i64 0) w3 := ⟨0, b, jb, _, _, _, [], rfl, rfl, rfl, rfl, Nat.zero_le _, by omega, b3, l2, rfl, by decide, by simp [bytesOf], Nat.le_refl _⟩
  clear a2 l2 b3 r3 o3
  generalize w2.heap.size = rb at *
  go_wp2_with fail
  go_loopw [13, 8, 9, 11] (fun iv dv jv ev wr => CrRel w0 rb l.length iv dv jv ev wr) (fun iv _ _ _ _ => 20 - (intOf iv).toNat)
  case atStart => exact HR
  case round =>
    obtain ⟨k, b, jb, fd, fr, d, L, rfl, rfl, rfl, rfl, g1, g2, g3, g4, g5, g6, g7, g8⟩ := hrel
    clear HR
    by_cases hk : k < l.length ∧ k < 20
    · obtain ⟨hk1, hk2⟩ := hk
      obtain ⟨b1, of1, c1, e1, -⟩ := strs_at (hl0.out.other g3.at_.on (fun _ _ _ _ _ h => h)) hk1
      simp only [Value.slice.injEq] at e1
      obtain ⟨rfl, _, rfl⟩ := e1
      have hcell := Lib.hid (show ∀ wx, Only Nob w0 wx → wx.cell? ⟨b1, of1 + k, none⟩ = some (SV (l[k])) from fun wx ox => by
        obtain ⟨b2, of2, c2, e1, e2⟩ := strs_at (hl0.out.other ox (fun _ _ _ _ _ h => h)) hk1
        simp only [Value.slice.injEq, Option.some.injEq, Addr.mk.injEq] at e1
        obtain ⟨⟨rfl, rfl, _⟩, _, rfl⟩ := e1
        exact e2)
      have h0 : (0 : Int) ≤ (k : Int) := by omega
      have hk3 : (k : Int) < (l.length : Int) := by omega
      have hk10 : (k : Int) < 20 := by omega
      have hshort : ∀ w, Calls Try.prog 43 #[SV (l[k])] w fun e w' => e = .returned (SV ((l[k]).take 200)) ∧ w = w' := fun w => short_SV l[k] w (HL2.out _ (List.getElem_mem hk1))
      have hrl : ((l[k]).take 200).length ≤ 200 := by rw [List.length_take]; omega
      generalize (l[k]).take 200 = r at hshort hrl
      generalize l[k] = rk at hcell hshort
      unfold SV at hcell
      have hshort := Lib.hid (show ∀ w, Calls Try.prog 43 #[.string ⟨rk.toArray⟩] w fun e w' => e = .returned (SV r) ∧ w = w' from hshort)
      by_cases hfs : 0 < fs.length
      case' pos =>
        have t1 : (0 : Int) < (fs.length : Int) := by omega
        obtain ⟨q, hq, hq2⟩ : ∃ q : Nat, (k : Int).tmod (fs.length : Int) = (q : Int) ∧ q < fs.length := ⟨k % fs.length, by rw [Int.tmod_eq_emod_of_nonneg (by omega)]; rfl, Nat.mod_lt _ hfs⟩
        have q0 : (0 : Int) ≤ (q : Int) := by omega
        have q1 : (q : Int) < (fs.length : Int) := by omega
        obtain ⟨bz, oz, cz', e1, e2, e3⟩ := KInts.get (hf0.out.other g3.at_.on (fun _ _ _ _ _ h => h)) hq2
        simp only [Value.slice.injEq] at e1
        obtain ⟨rfl, _, rfl⟩ := e1
        have hz := bounds_u8 e3
        generalize fs.getD q 0 = z at e2 hz
        obtain ⟨n9, hn9, hn92⟩ := u8_mod z 9 (by omega) (by omega) hz
        clear hz e3 hfs hq2
        have lc := g4.failed n9
        have c4 : (d.failed n9).calls ≤ 1 + 5 * k := g6
        clear g4 g5 g6
        go_wp2_with fail
        refine (fail_any _ b d n9 _ g3.at_.dk (by omega)).mono ?_
        rintro e w4 ⟨rfl, k4, o4⟩
        have b4 := g3.disk k4 o4
        clear g3 k4 o4
        generalize d.failed n9 = d4 at *
      case' neg =>
        have t1 := hfs
        have lc := g4
        have c4 := g6
        have b4 := g3
        clear g4 g5 g6 g3 hfs
        obtain ⟨d4, rfl⟩ : ∃ d4 : DS, d4 = d := ⟨_, rfl⟩
        obtain ⟨w4, rfl⟩ : ∃ w4 : World, w4 = wr := ⟨_, rfl⟩
      all_goals
        have v4 := hcell.out w4 b4.at_.on
        have gk : L.length + 1 ≤ 20 := by omega
        have gb : bytesOf L ≤ 216 * 20 := by omega
        go_wp2_with fail
        refine (hshort.out _).mono ?_
        rintro e w' ⟨rfl, rfl⟩
        rcases jappend_split d4 L r lc (by omega) (by omega) with HA | ⟨hdf, HA⟩
        case inl =>
          go_wp2_with fail
          refine (HA _ _ _ _ b4.at_.jh b4.at_.dk b4.at_.nj).mono ?_
          rintro e w5 ⟨d5, rfl, j5, k5, l5, g5', o5⟩
          have b5 := b4.app j5 k5 o5
          have v5 := hcell.out w5 b5.at_.on
          have c5 := g5'.calls
          have HR := Lib.hid (ref_ok rb L r hrl (by omega) (by omega))
          clear b4 j5 k5 o5 lc v4 g5' HA
          go_wp2_with fail
          refine (hshort.out _).mono ?_
          rintro e w' ⟨rfl, rfl⟩
          go_wp2_with fail
          refine (HR.out _ _ b5.rj).mono ?_
          rintro e w6 ⟨rfl, r6, o6⟩
          have b6 := b5.ref r6 o6
          clear b5 r6 o6 v5
          go_wp2_with fail
          refine (fail_any _ b d5 (-1) _ b6.at_.dk (by omega)).mono ?_
          rintro e w7 ⟨rfl, k7, o7⟩
          have b7 := b6.disk k7 o7
          have l7 := l5.failed (-1)
          have f7 : (d5.failed (-1)).fail = false := rfl
          have c7 : (d5.failed (-1)).calls ≤ 1 + 5 * (k + 1) := by show d5.calls ≤ _; omega
          clear b6 k7 o7 l5
          generalize d5.failed (-1) = d7 at *
          go_wp2_with fail
          go_roundw
          case rel => exact ⟨k + 1, b, jb, _, _, d7, L ++ [r], by simp, rfl, rfl, rfl, hk1, hk2, b7, l7, f7, c7, by rw [bytesOf_snoc]; omega, by rw [List.length_append]; show L.length + 1 ≤ _; omega⟩
          case measure => simp [intOf]; omega
        case inr =>
          go_wp2_with fail
          refine (HA _ _ _ _ b4.at_.jh b4.at_.dk b4.at_.nj).mono ?_
          rintro e w5 ⟨d5, rfl, j5, k5, l5, f4, f5, c5, o5⟩
          have b5 := b4.app j5 k5 o5
          have v5 := hcell.out w5 b5.at_.on
          have HR := Lib.hid (ref_fail rb L r hrl (by omega))
          clear b4 j5 k5 o5 lc v4 HA
          go_wp2_with fail
          refine (hshort.out _).mono ?_
          rintro e w' ⟨rfl, rfl⟩
          go_wp2_with fail
          refine (HR.out _ _ b5.rj).mono ?_
          rintro e w6 ⟨rfl, r6, o6⟩
          have b6 := b5.ref r6 o6
          obtain ⟨fr6, hfr6⟩ : ∃ fr6 : Nat → Prop, fr6 = grow fr w5 w6 := ⟨_, rfl⟩
          rw [← hfr6] at b6
          clear hfr6
          clear b5 r6 o6 v5
          go_wp2_with fail
          have hvL := b6.rj
          obtain ⟨vL, vM, hin⟩ := hvL
          obtain ⟨aL, cL, rfl, _⟩ := own_form hin.rL
          have hcL := Lib.hid (show ∀ wx, Only Nob w6 wx → wx.cell? ⟨rb, 0, none⟩ = some (.slice aL L.length cL) from fun wx ox => (hin.other ox (fun _ _ h => h)).cells.1)
          have u6 := hcL.out w6 (Only.refl _ _)
          have u6d := hcL.out w6.drew (Only.drew Nob w6)
          have bd := b6.quiet (Only.drew Nob w6)
          have HM := Lib.hid (show ∀ w, JHdr w jb b (jsBroken L) → Calls Try.prog 45 #[.pointer (some ⟨jb, 0, none⟩)] w fun e w' => e = .returned (.int .i64 (L.length : Nat)) ∧ w = w' from fun w h => many_any jb b _ _ h)
          have HB := Lib.hid (show ∀ w, JHdr w jb b (jsBroken L) → Calls Try.prog 42 #[.pointer (some ⟨jb, 0, none⟩), .string ⟨#[109, 111, 114, 101]⟩] w fun e w' => e = .returned (.int .i64 70) ∧ Only Nob w w' from fun w h => append_broken jb b _ [109, 111, 114, 101] w h rfl)
          clear hin
          go_region_held3 (fun w' => w'.cell? ⟨rb, 0, none⟩ = some (.slice aL L.length cL))
            (with_reducible first | exact u7 | exact u6d | exact u6)
            (first
              | (have mk := mark1; go_at_call 45; (with_reducible refine (HM.out _ b7.at_.jh).mono ?_); rintro e w' ⟨rfl, rfl⟩)
              | (go_at_call 42; (with_reducible refine (HB.out _ bd.at_.jh).mono ?_); rintro e w7 ⟨rfl, o7⟩; have b7 := bd.quiet o7; have u7 := hcL.out w7 ((Only.drew Nob w6).trans o7 (fun _ _ h => h)); have mark1 := Lib.hid trivial))
          obtain ⟨G, hG, hW⟩ : ∃ G, Holds (d5.crashed zs).now G ∧ (((⟨L, [r], true, bytesOf L⟩ : RS) = ⟨L, [], false, bytesOf L⟩ ∧ G = L) ∨ (∃ r', r'.length ≤ 200 ∧ (⟨L, [r], true, bytesOf L⟩ : RS) = ⟨L, [r'], true, bytesOf L⟩ ∧ (G = L ∨ G = L ++ [r']))) := by
            rcases l5.crash zs with h | h
            · exact ⟨L, h, .inr ⟨r, hrl, rfl, .inl rfl⟩⟩
            · exact ⟨_, h, .inr ⟨r, hrl, rfl, .inr rfl⟩⟩
          obtain ⟨⟨hG1, hG2⟩, hO⟩ := rs_opens rb _ L G hW (by omega) (by omega)
          have HO := Lib.hid hO
          have hz7 := hs0.out.other b7.at_.on (fun _ _ _ _ _ h => h)
          clear hW hO u6 u6d bd b6 u7 o7 mark1
          go_wp2_with fail
          refine (crash_any _ b d5 sv zs _ b7.at_.dk hz7).mono ?_
          rintro e w8 ⟨c, rfl, pc, d8, o8⟩
          go_wp2_with fail
          refine (opened_any _ c _ G _ d8 (by show 0 < 100000; omega) rfl hG).mono ?_
          rintro e w9 ⟨jc, ao9, cap9, fp9, rfl, p9, p9', jh9, r9, f9, k9, f9', m9, o9⟩
          have b9 := b7.fresh o8 (fun k h => h) jh9 p9 k9 f9' o9
          have nr9 : ∀ k, Blk (.slice ao9 G.length cap9) k → ¬ fr6 k := fun k hk hx => by
            have h1 := (f9 k hk).1
            have h2 := b7.rj.lt hx
            have h3 := o8.size
            omega
          have l9 := (clean_synced hG).1
          clear b7 hz7 pc d8 o8 p9 p9' jh9 f9 k9 f9' m9 o9
          go_wp2_with fail
          refine (HO.out _ _ _ b9.rj r9 nr9).mono ?_
          rintro e w10 ⟨rfl, r10, o10⟩
          have b10 := b9.ref r10 o10
          clear b9 r9 nr9 r10 o10
          go_wp2_with fail
          go_roundw
          case rel => exact ⟨k + 1, c, jc, _, _, (d5.crashed zs).synced, G, by simp, rfl, rfl, rfl, hk1, hk2, b10, l9, rfl, by show 0 + 1 ≤ _; omega, by omega, by omega⟩
          case measure => simp [intOf]; omega
    · obtain ⟨wb, rfl⟩ : ∃ wb : World, wb = wr := ⟨_, rfl⟩
      have hz := hs0.out.other g3.at_.on (fun _ _ _ _ _ h => h)
      have gl : L.length ≤ 20 := by omega
      by_cases hk1 : k < l.length
      case' pos =>
        obtain rfl : k = 20 := by omega
        have t1 : (20 : Int) < (l.length : Int) := by omega
        clear hk hk1 g1 g2 g5 g6 g7 g8
      case' neg =>
        obtain rfl : k = l.length := by omega
        have t1 : (l.length : Int) ≤ (20 : Int) := by omega
        clear hk hk1 g1 g2 g5 g6 g7 g8
      all_goals
        go_wp2_with fail
        refine (crash_any _ b d sv zs _ g3.at_.dk hz).mono ?_
        rintro e w4 ⟨c, rfl, pc, d4, o4⟩
        have l4 := g4.crashed zs
        go_wp2_with fail
        refine (opened_any _ c _ L _ d4 (by show 0 < 100000; omega) rfl l4.holds).mono ?_
        rintro e w5 ⟨j5, ao5, cap5, fp5, rfl, p5, p5', jh5, r5, f5, k5, f5', n5, o5⟩
        have o45 := ((After.nob wb).grow (b := w4) (Nat.le_refl _)).only o4 o5
        have b5 := g3.quiet o45
        obtain ⟨vL, vM, hin⟩ := b5.rj
        obtain ⟨aL, cL, rfl, _⟩ := own_form hin.rL
        obtain ⟨x0, -⟩ := hin.cells
        have hSame := Lib.hid (same_yes _ _ L w5 r5.strs hin.rL.strs (by omega))
        have OT := Lib.hid (o0.trans b5.at_.on (fun _ _ h => h))
        clear g3 g4 hz pc d4 o4 l4 p5 p5' jh5 r5 f5 k5 f5' n5 o5 o45 b5 hin
        go_wp2_with fail
        (with_reducible refine hSame.out.mono ?_)
        rintro e w9 ⟨rfl, o9⟩
        go_wp2_with fail
        go_ret
        exact ⟨by simp, OT.out.trans o9 (fun _ _ h => h)⟩
end Go.Proofs.Ytdpebdghhgojaaa
