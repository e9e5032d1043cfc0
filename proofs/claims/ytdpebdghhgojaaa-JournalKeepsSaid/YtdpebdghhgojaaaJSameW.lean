/- The walk of JournalSame. -/
import Derived.Test.YtdpebdghhgojaaaJBoth
namespace Go.Proofs.Ytdpebdghhgojaaa
open Go.RowKit

/-- The state of the journal beside the reference's: all well, or the power failed while r was being appended. -/
def Way (js : JS) (d : DS) (rs : RS) (L : List (List UInt8)) : Prop :=
  (js = jsOf L ∧ Clean d L ∧ rs = ⟨L, [], false, bytesOf L⟩) ∨ (∃ r, r.length ≤ 200 ∧ js = jsBroken L ∧ Torn d L r ∧ d.fail = true ∧ rs = ⟨L, [r], true, bytesOf L⟩)

/-- The loop of JournalSame. -/
def SmRel (W : World) (jb b rb h n : Nat) (iv : Value) (wr : World) : Prop :=
  ∃ (k : Nat) (fd fr : Nat → Prop) (js : JS) (d : DS) (rs : RS) (L : List (List UInt8)), iv = .int .i64 k ∧ k ≤ n ∧ k ≤ 10 ∧ Both W wr fd fr jb b rb js d rs ∧ Way js d rs L ∧ (k ≤ h → d.fail = false) ∧ d.calls ≤ 1 + 4 * k ∧ bytesOf L ≤ 216 * k ∧ L.length ≤ k

theorem rs_opens (rb : Nat) (rs : RS) (L G : List (List UInt8)) (h : (rs = ⟨L, [], false, bytesOf L⟩ ∧ G = L) ∨ (∃ r, r.length ≤ 200 ∧ rs = ⟨L, [r], true, bytesOf L⟩ ∧ (G = L ∨ G = L ++ [r]))) (hL : L.length ≤ 1000) (hb : bytesOf L ≤ 10000000) :
    (G.length ≤ L.length + 1 ∧ bytesOf G ≤ bytesOf L + 216) ∧ ∀ fp w vl, RJ w fp rb rs → Srow w vl G → (∀ k, Blk vl k → ¬ fp k) → Calls Try.prog 46 #[.pointer (some ⟨rb, 0, none⟩), vl] w (RJPost fp rb ⟨G, [], false, bytesOf G⟩ (.bool true) w) := by
  have hs : sumB L ≤ 10000000 := by rw [← sumB_bytes]; exact hb
  rcases h with ⟨rfl, rfl⟩ | ⟨r, hr, rfl, rfl | rfl⟩
  · refine ⟨⟨by omega, by omega⟩, fun fp w vl h1 h2 h3 => ?_⟩
    have := opens_same fp rb _ vl w h1 h2 h3 (by show G.length ≤ _; omega) (by show sumB G ≤ _; omega)
    rw [sumB_bytes]
    exact this
  · refine ⟨⟨by omega, by omega⟩, fun fp w vl h1 h2 h3 => ?_⟩
    have := opens_same fp rb _ vl w h1 h2 h3 (by show G.length ≤ _; omega) (by show sumB G ≤ _; omega)
    rw [sumB_bytes]
    exact this
  · have hsn := sumB_snoc L r
    have hlen : (L ++ [r]).length = L.length + 1 := by simp
    refine ⟨⟨by omega, by rw [bytesOf_snoc]; omega⟩, fun fp w vl h1 h2 h3 => ?_⟩
    have := opens_last fp rb _ vl [] (L ++ [r]) r w h1 rfl rfl rfl h2 h3 (by omega) (by show 1 ≤ _; omega) (by omega)
    rw [sumB_bytes]
    exact this

theorem way_now {js : JS} {d : DS} {rs : RS} {L : List (List UInt8)} (h : Way js d rs L) : ∃ G, Holds d.now G ∧ ((rs = ⟨L, [], false, bytesOf L⟩ ∧ G = L) ∨ (∃ r, r.length ≤ 200 ∧ rs = ⟨L, [r], true, bytesOf L⟩ ∧ (G = L ∨ G = L ++ [r]))) := by
  rcases h with ⟨_, y2, y3⟩ | ⟨r, y1, _, y3, _, y5⟩
  · exact ⟨L, y2.holds, .inl ⟨y3, rfl⟩⟩
  · rcases y3.now with h | h
    · exact ⟨L, h, .inr ⟨r, y1, y5, .inl rfl⟩⟩
    · exact ⟨_, h, .inr ⟨r, y1, y5, .inr rfl⟩⟩

theorem u8_mod (z m : Int) (h0 : 0 < m) (h1 : m ≤ 256) (hz : 0 ≤ z ∧ z ≤ 255) : ∃ n : Nat, wrap64 (z.tmod m) = n ∧ (n : Int) < m := by
  have e : z.tmod m = z % m := Int.tmod_eq_emod_of_nonneg hz.1
  have e1 : 0 ≤ z % m := Int.emod_nonneg _ (by omega)
  have e2 : z % m < m := Int.emod_lt_of_pos _ h0
  refine ⟨(z % m).toNat, ?_, by omega⟩
  rw [e]
  unfold wrap64
  omega

theorem ref_ok (rb : Nat) (L : List (List UInt8)) (r : List UInt8) (hr : r.length ≤ 200) (hb : bytesOf L ≤ 10000000) (hL : L.length ≤ 100000000) : ∀ fp w, RJ w fp rb ⟨L, [], false, bytesOf L⟩ → Calls Try.prog 44 #[.pointer (some ⟨rb, 0, none⟩), SV r, .bool true] w (RJPost fp rb ⟨L ++ [r], [], false, bytesOf (L ++ [r])⟩ (.int .i64 0) w) := fun fp w h => by
  have := rapp_ok fp rb _ r w h rfl (by omega) (by show bytesOf L + _ + _ ≤ _; omega) hL
  rw [bytesOf_snoc]
  exact this
theorem ref_fail (rb : Nat) (L : List (List UInt8)) (r : List UInt8) (hr : r.length ≤ 200) (hb : bytesOf L ≤ 10000000) : ∀ fp w, RJ w fp rb ⟨L, [], false, bytesOf L⟩ → Calls Try.prog 44 #[.pointer (some ⟨rb, 0, none⟩), SV r, .bool false] w (RJPost fp rb ⟨L, [r], true, bytesOf L⟩ (.int .i64 70) w) := fun fp w h =>
  rapp_fail fp rb _ r w h rfl (by omega) (by show bytesOf L + _ + _ ≤ _; omega) (by show 0 ≤ _; omega)

set_option maxRecDepth 100000 in
set_option maxHeartbeats 4000000 in
theorem same_walk (vl : Value) (l : List (List UInt8)) (f : Int) (sv : Value) (zs : List Int) (w : World) (hl : StrsA w vl l) (hf : 0 ≤ f ∧ f ≤ 255) (hs : Ints w sv zs) :
    Calls Try.prog 15 #[vl, .int .u8 f, sv] w fun e w' => e = .returned (.bool true) ∧ Only Nob w w' := by
  obtain ⟨hl, hl2, hl3⟩ := hl
  obtain ⟨al, cl, rfl⟩ := hl.form
  obtain ⟨n9, hn9, hn92⟩ := u8_mod f 9 (by omega) (by omega) hf
  clear hf
  go_enter Try.func15, Try.ntmps15
  go_wp2_with fail
  refine (jsanity_any _).mono ?_
  rintro e w0 ⟨rfl, o0⟩
  have hl0 := Lib.hid (hl.other o0 (fun _ _ _ _ _ h => h))
  have hs0 := Lib.hid (hs.other o0 (fun _ _ _ _ _ h => h))
  have HL2 := Lib.hid hl2
  clear hl hl2 hs
  go_wp2_with fail
  refine (new_any _).mono ?_
  rintro e w1 ⟨b, rfl, -, d1, o1, -⟩
  go_wp2_with fail
  refine (opened_any _ b _ [] _ d1 (by decide) rfl holds_new).mono ?_
  rintro e w2 ⟨jb, ao, cap, fp2, rfl, p1, p2, j2, r2, f2, d2, f2', n2, o2⟩
  have a2 := JAt.opened ((After.nob w0).grow (b := w1) (Nat.le_refl _)) o1 j2 p1 d2 f2' o2
  have l2 := (clean_synced holds_new).1
  clear d1 o1 j2 p1 d2 f2' o2 p2 r2 f2 n2
  go_wp2_with fail
  refine (rnewj_any _).mono ?_
  rintro e w3 ⟨rfl, r3, o3⟩
  have b3 : Both w0 w3 fp2 (grow Nob w2 w3) jb b w2.heap.size _ _ _ := ⟨a2.quiet o3, r3, (After.nob w0).grow a2.on.size, fun k hk hx => by
    rcases hk with hk | ⟨hk, _⟩
    · exact hk.elim
    · rcases hx with hx | rfl
      · have := a2.dk.lt k hx; omega
      · have := a2.jh.lt; omega⟩
  obtain ⟨h, hh⟩ : ∃ h : Nat, h = l.length / 2 := ⟨_, rfl⟩
  have hdiv : IntKind.i64.wrap ((l.length : Int).tdiv 2) = (h : Nat) := by
    rw [Int.tdiv_eq_ediv_of_nonneg (by omega), IntWalk.i64_in _ (by omega)]; omega
  have HR : SmRel w0 jb b w2.heap.size h l.length (.int .i64 (0 : Nat)) w3 := ⟨0, _, _, _, _, _, [], rfl, Nat.zero_le _, by omega, b3, .inl ⟨rfl, l2, rfl⟩, fun _ => rfl, by decide, by simp [bytesOf], Nat.le_refl _⟩
  clear a2 l2 b3 r3 o3
  generalize w2.heap.size = rb at *
  go_wp2_with fail
  go_loopw [13] (fun iv wr => SmRel w0 jb b rb h l.length iv wr) (fun iv _ => 10 - (intOf iv).toNat)
  case atStart => exact HR
  case round =>
    obtain ⟨k, fd, fr, js, d, rs, L, rfl, g1, g2, g3, g4, g5, g6, g7, g8⟩ := hrel
    clear HR
    by_cases hk : k < l.length ∧ k < 10
    · obtain ⟨hk1, hk2⟩ := hk
      obtain ⟨b1, of1, c1, e1, -⟩ := strs_at (hl0.out.other g3.at_.on (fun _ _ _ _ _ h => h)) hk1
      simp only [Value.slice.injEq] at e1
      obtain ⟨rfl, _, rfl⟩ := e1
      have hcell := Lib.hid (show ∀ wx, Only Nob w0 wx → wx.cell? ⟨b1, of1 + k, none⟩ = some (SV (l[k])) from fun wx ox => by
        obtain ⟨b2, of2, c2, e1, e2⟩ := strs_at (hl0.out.other ox (fun _ _ _ _ _ h => h)) hk1
        simp only [Value.slice.injEq, Option.some.injEq, Addr.mk.injEq] at e1
        obtain ⟨⟨rfl, rfl, _⟩, _, rfl⟩ := e1
        exact e2)
      have h0 : (0 : Int) ≤ (k : Int) := by omega
      have hk3 : (k : Int) < (l.length : Int) := by omega
      have hk10 : (k : Int) < 10 := by omega
      have hshort : ∀ w, Calls Try.prog 43 #[SV (l[k])] w fun e w' => e = .returned (SV ((l[k]).take 200)) ∧ w = w' := fun w => short_SV l[k] w (HL2.out _ (List.getElem_mem hk1))
      have hrl : ((l[k]).take 200).length ≤ 200 := by rw [List.length_take]; omega
      generalize (l[k]).take 200 = r at hshort hrl
      generalize l[k] = rk at hcell hshort
      unfold SV at hcell
      have hshort := Lib.hid (show ∀ w, Calls Try.prog 43 #[.string ⟨rk.toArray⟩] w fun e w' => e = .returned (SV r) ∧ w = w' from hshort)
      have hx : ∃ d' : DS, (k = h → d' = d.failed n9) ∧ (k ≠ h → d' = d) := by
        by_cases hkh : k = h
        · exact ⟨_, fun _ => rfl, fun h => absurd hkh h⟩
        · exact ⟨_, fun h => absurd h hkh, fun _ => rfl⟩
      by_cases hkh : k = h
      case' pos =>
        have t1 : ((k : Int) == (h : Int)) = true := by rw [hkh]; simp
        have f0 := g5 (by omega)
        have q5 : k + 1 ≤ h → (d.failed n9).fail = false := fun h => by omega
        have w4' : Way js (d.failed n9) rs L := by
          rcases g4 with ⟨y1, y2, y3⟩ | ⟨_, _, _, _, y4, _⟩
          · exact .inl ⟨y1, y2.failed _, y3⟩
          · rw [f0] at y4; cases y4
        have c4 : (d.failed n9).calls ≤ 1 + 4 * k := g6
        clear hx hkh f0 g5 g4 g6
        go_wp2_with fail
        refine (fail_any _ b d n9 _ g3.at_.dk (by omega)).mono ?_
        rintro e w4 ⟨rfl, k4, o4⟩
        have b4 := g3.disk k4 o4
        clear g3 k4 o4
        generalize d.failed n9 = d4 at *
        go_wp2_with fail
      case' neg =>
        have t1 : ((k : Int) == (h : Int)) = false := by simp; omega
        have q5 : k + 1 ≤ h → d.fail = false := fun h => g5 (by omega)
        have w4' := g4
        have c4 := g6
        have b4 := g3
        clear hx hkh g5 g4 g6 g3
        obtain ⟨d4, rfl⟩ : ∃ d4 : DS, d4 = d := ⟨_, rfl⟩
        obtain ⟨w4, rfl⟩ : ∃ w4 : World, w4 = wr := ⟨_, rfl⟩
        go_wp2_with fail
      all_goals
        have bd := b4.quiet (Only.drew Nob w4)
        have v4 := hcell.out w4 b4.at_.on
        have v4d := hcell.out w4.drew bd.at_.on
        rcases w4' with ⟨rfl, lc, rfl⟩ | ⟨rx, rxl, rfl, lt, lf, rfl⟩
        case' inl =>
          rcases jappend_split d4 L r lc (by omega) (by omega) with HA | ⟨hdf, HA⟩
        case inl.inl =>
          have HR := Lib.hid (ref_ok rb L r hrl (by omega) (by omega))
          have HA := Lib.hid HA
          go_region_held3 (fun w' => w'.cell? ⟨b1, of1 + k, none⟩ = some (.string ⟨rk.toArray⟩))
            (with_reducible first | exact u6 | exact u5 | exact v4d | exact v4)
            (first
              | (have mk := mark1; go_at_call 44; (with_reducible refine (HR.out _ _ b5.rj).mono ?_); rintro e w6 ⟨rfl, r6, o6⟩; have b6 := b5.ref r6 o6; have u6 := hcell.out w6 b6.at_.on)
              | (go_at_call 42; (with_reducible refine (HA.out _ _ _ _ bd.at_.jh bd.at_.dk bd.at_.nj).mono ?_); rintro e w5 ⟨d5, rfl, j5, k5, l5, g5', o5⟩; have b5 := bd.app j5 k5 o5; have u5 := hcell.out w5 b5.at_.on; have mark1 := Lib.hid trivial)
              | (go_at_call 43; (with_reducible refine (hshort.out _).mono ?_); rintro e w' ⟨rfl, rfl⟩))
          have c5 := g5'.calls
          have hby := bytesOf_snoc L r
          have hln : (L ++ [r]).length = L.length + 1 := by simp
          have f5 : k + 1 ≤ h → d5.fail = false := fun hx => by rw [g5'.fail]; exact q5 hx
          clear hdiv
          go_wp2_with fail
          go_roundw
          case rel => exact ⟨k + 1, _, _, _, d5, _, L ++ [r], by simp, hk1, hk2, b6, .inl ⟨rfl, l5, rfl⟩, f5, by omega, by omega, by omega⟩
          case measure => simp [intOf]; omega
        case inl.inr =>
          have HR := Lib.hid (ref_fail rb L r hrl (by omega))
          have HA := Lib.hid HA
          go_region_held3 (fun w' => w'.cell? ⟨b1, of1 + k, none⟩ = some (.string ⟨rk.toArray⟩))
            (with_reducible first | exact u6 | exact u5 | exact v4d | exact v4)
            (first
              | (have mk := mark1; go_at_call 44; (with_reducible refine (HR.out _ _ b5.rj).mono ?_); rintro e w6 ⟨rfl, r6, o6⟩; have b6 := b5.ref r6 o6; have u6 := hcell.out w6 b6.at_.on)
              | (go_at_call 42; (with_reducible refine (HA.out _ _ _ _ bd.at_.jh bd.at_.dk bd.at_.nj).mono ?_); rintro e w5 ⟨d5, rfl, j5, k5, l5, f4, f5, c5, o5⟩; have b5 := bd.app j5 k5 o5; have u5 := hcell.out w5 b5.at_.on; have mark1 := Lib.hid trivial)
              | (go_at_call 43; (with_reducible refine (hshort.out _).mono ?_); rintro e w' ⟨rfl, rfl⟩))
          have q6 : k + 1 ≤ h → d5.fail = false := fun hx => by have := q5 hx; rw [f4] at this; cases this
          clear hdiv
          go_wp2_with fail
          go_roundw
          case rel => exact ⟨k + 1, _, _, _, d5, _, L, by simp, hk1, hk2, b6, .inr ⟨r, hrl, rfl, l5, f5, rfl⟩, q6, by omega, by omega, by omega⟩
          case measure => simp [intOf]; omega
        case inr =>
          have HR := Lib.hid (show ∀ fp w, RJ w fp rb ⟨L, [rx], true, bytesOf L⟩ → Calls Try.prog 44 #[.pointer (some ⟨rb, 0, none⟩), SV r, .bool false] w fun e w' => e = .returned (.int .i64 70) ∧ w = w' from fun fp w hr => rapp_broken fp rb _ r false w hr rfl)
          have HA := Lib.hid (show ∀ w, JHdr w jb b (jsBroken L) → Calls Try.prog 42 #[.pointer (some ⟨jb, 0, none⟩), SV r] w fun e w' => e = .returned (.int .i64 70) ∧ Only Nob w w' from fun w hj => append_broken jb b _ r w hj rfl)
          go_region_held3 (fun w' => w'.cell? ⟨b1, of1 + k, none⟩ = some (.string ⟨rk.toArray⟩))
            (with_reducible first | exact u5 | exact v4d | exact v4)
            (first
              | (have mk := mark1; go_at_call 44; (with_reducible refine (HR.out _ _ b5.rj).mono ?_); rintro e w' ⟨rfl, rfl⟩)
              | (go_at_call 42; (with_reducible refine (HA.out _ bd.at_.jh).mono ?_); rintro e w5 ⟨rfl, o5⟩; have b5 := bd.quiet o5; have u5 := hcell.out w5 b5.at_.on; have mark1 := Lib.hid trivial)
              | (go_at_call 43; (with_reducible refine (hshort.out _).mono ?_); rintro e w' ⟨rfl, rfl⟩))
          clear hdiv
          go_wp2_with fail
          go_roundw
          case rel => exact ⟨k + 1, _, _, _, d4, _, L, by simp, hk1, hk2, b5, .inr ⟨rx, rxl, rfl, lt, lf, rfl⟩, q5, by omega, by omega, by omega⟩
          case measure => simp [intOf]; omega
    · obtain ⟨wb, rfl⟩ : ∃ wb : World, wb = wr := ⟨_, rfl⟩
      obtain ⟨G, hG, hW⟩ := way_now g4
      obtain ⟨⟨hG1, hG2⟩, hO⟩ := rs_opens rb rs L G hW (by omega) (by omega)
      have HO := Lib.hid hO
      have c6 : d.calls ≤ 41 := by omega
      have gl : G.length ≤ 100 := by omega
      clear hW hO hG1 hG2 g4 g5 g7 g8 hdiv hh
      by_cases hk1 : k < l.length
      case' pos =>
        obtain rfl : k = 10 := by omega
        have t1 : (10 : Int) < (l.length : Int) := by omega
        clear hk hk1 g1 g2 g6
      case' neg =>
        obtain rfl : k = l.length := by omega
        have t1 : (l.length : Int) ≤ (10 : Int) := by omega
        clear hk hk1 g1 g2 g6
      all_goals
        go_wp2_with fail
        refine (fail_any _ b d (-1) _ g3.at_.dk (by omega)).mono ?_
        rintro e w4 ⟨rfl, k4, o4⟩
        have b4 := g3.disk k4 o4
        have h4 : Holds (d.failed (-1)).now G := hG
        have f4 : (d.failed (-1)).fail = false := rfl
        have c4 : (d.failed (-1)).calls ≤ 41 := c6
        clear g3 k4 o4 hG
        generalize d.failed (-1) = d4 at *
        go_wp2_with fail
        refine (opened_any _ b d4 G _ b4.at_.dk (by omega) f4 h4).mono ?_
        rintro e w5 ⟨j5, ao5, cap5, fp5, rfl, p5, p5', jh5, r5, f5, k5, f5', n5, o5⟩
        have b5 := b4.again jh5 p5 k5 f5' o5
        have l5 := (clean_synced h4).1
        have ap5 : Apart w5 fp5 j5 (.slice ao5 G.length cap5) G := ⟨r5, fun k hk hx => by
          obtain ⟨_, h2, h3⟩ := f5 k hk
          rcases hx with hx | hx
          · exact h3 hx
          · exact h2 hx⟩
        have nr5 : ∀ k, Blk (.slice ao5 G.length cap5) k → ¬ fr k := fun k hk hx => by
          have h1 := (f5 k hk).1
          have h2 := b4.rj.lt hx
          omega
        clear jh5 p5 p5' k5 f5' o5 h4 b4 f5 n5
        generalize d4.synced = d5 at *
        go_wp2_with fail
        refine (HO.out _ _ _ b5.rj r5 nr5).mono ?_
        rintro e w6 ⟨rfl, r6, o6⟩
        have b6 := b5.ref r6 o6
        have s6 := r5.other o6 nr5
        have hz6 := hs0.out.other b6.at_.on (fun _ _ _ _ _ h => h)
        clear r5 nr5 ap5 b5 r6 o6
        go_wp2_with fail
        refine (crash_any _ b d5 sv zs w6 b6.at_.dk hz6).mono ?_
        rintro e w7 ⟨c, rfl, pc, d7, o7⟩
        have l7 := l5.crashed zs
        go_wp2_with fail
        refine (opened_any _ c _ G _ d7 (by show 0 < 100000; omega) rfl l7.holds).mono ?_
        rintro e w8 ⟨j8, ao8, cap8, fp8, rfl, p8, p8', jh8, r8, f8, k8, f8', n8, o8⟩
        have o68 := ((After.nob w6).grow (b := w7) (Nat.le_refl _)).only o7 o8
        have s8 := s6.other o68 (fun _ _ h => h)
        have hSame := Lib.hid (same_yes _ _ G w8 r8.strs s8.strs (by omega))
        have OT := Lib.hid (o0.trans (b6.at_.on.trans o68 (fun _ _ h => h)) (fun _ _ h => h))
        clear b6 s6 hz6 pc d7 o7 l7 p8 p8' jh8 r8 f8 k8 f8' n8 o8 o68 s8 l5
        go_wp2_with fail
        (with_reducible refine hSame.out.mono ?_)
        rintro e w9 ⟨rfl, o9⟩
        go_wp2_with fail
        go_ret
        exact ⟨by simp, OT.out.trans o9 (fun _ _ h => h)⟩
end Go.Proofs.Ytdpebdghhgojaaa
