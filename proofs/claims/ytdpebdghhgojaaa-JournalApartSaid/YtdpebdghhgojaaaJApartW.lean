/- The walk of JournalApart. -/
import Derived.Test.YtdpebdghhgojaaaJSanity
import Derived.Test.YtdpebdghhgojaaaJArgs
namespace Go.Proofs.Ytdpebdghhgojaaa
open Go.RowKit

/-- The first k records, each cut to 200 bytes. -/
def cut (l : List (List UInt8)) (k : Nat) : List (List UInt8) := (l.take k).map (fun r => r.take 200)
theorem cut_zero (l : List (List UInt8)) : cut l 0 = [] := rfl
theorem cut_succ (l : List (List UInt8)) (k : Nat) (h : k < l.length) : cut l (k + 1) = cut l k ++ [(l[k]).take 200] := by
  unfold cut; rw [List.take_succ_eq_append_getElem h, List.map_append]; rfl
theorem cut_len (l : List (List UInt8)) (k : Nat) (h : k ≤ l.length) : (cut l k).length = k := by unfold cut; simp; omega
theorem bytesOf_append (a b : List (List UInt8)) : bytesOf (a ++ b) = bytesOf a + bytesOf b := by
  rw [sumB_bytes, sumB_bytes, sumB_bytes]
  induction a with
  | nil => simp [sumB]
  | cons x a ih => simp only [List.cons_append, sumB, ih]; omega
theorem bytes_cut (l : List (List UInt8)) (k : Nat) (h : k ≤ l.length) : bytesOf (cut l k) ≤ 216 * k := by
  induction k with
  | zero => simp [cut_zero, bytesOf]
  | succ k ih =>
    rw [cut_succ l k (by omega), bytesOf_snoc]
    have := ih (by omega)
    have h2 : (List.take 200 l[k]).length ≤ 200 := by rw [List.length_take]; omega
    omega

/-- The loop that appends the records. -/
def ApRel (W : World) (jb b c0 : Nat) (L0 l : List (List UInt8)) (iv : Value) (wr : World) : Prop :=
  ∃ (k : Nat) (fd : Nat → Prop) (d : DS), iv = .int .i64 k ∧ k ≤ l.length ∧ k ≤ 10 ∧ JAt W wr fd jb b (jsOf (L0 ++ cut l k)) d ∧ Clean d (L0 ++ cut l k) ∧ d.fail = false ∧ d.calls ≤ c0 + 4 * k

/-- The head of a list. -/
theorem Strs.take {w : World} {ao : Option Addr} {cap : Nat} {l : List (List UInt8)} (h : Strs w (.slice ao l.length cap) l) (n : Nat) (hn : n ≤ l.length) : ∃ ao', ao' = ao ∧ Strs w (.slice ao' n cap) (l.take n) := by
  refine ⟨ao, rfl, ?_⟩
  have hl : (l.take n).length = n := by simp; omega
  by_cases h0 : n = 0
  · subst h0; exact .inl ⟨by simp, _, _, rfl⟩
  · rcases h with ⟨rfl, _⟩ | ⟨_, b, off, cap', hv, hb, hc⟩
    · simp at hn; omega
    · simp only [Value.slice.injEq] at hv
      obtain ⟨rfl, _, rfl⟩ := hv
      refine .inr ⟨by omega, b, off, cap, by rw [hl], hb, fun i hi => ?_⟩
      rw [hc i (by omega)]
      simp

set_option maxRecDepth 100000 in
set_option maxHeartbeats 4000000 in
theorem apart_walk (vl : Value) (l : List (List UInt8)) (vm : Value) (m : List (List UInt8)) (w : World) (hl : StrsA w vl l) (hm : StrsA w vm m) :
    Calls Try.prog 18 #[vl, vm] w fun e w' => e = .returned (.bool true) ∧ Only Nob w w' := by
  obtain ⟨hl, hl2, hl3⟩ := hl
  obtain ⟨hm, hm2, hm3⟩ := hm
  obtain ⟨al, cl, rfl⟩ := hl.form
  obtain ⟨am, cm, rfl⟩ := hm.form
  go_enter Try.func18, Try.ntmps18
  go_wp2_with fail
  refine (jsanity_any _).mono ?_
  rintro e w0 ⟨rfl, o0⟩
  have hl0 := Lib.hid (hl.other o0 (fun _ _ _ _ _ h => h))
  have hm0 := Lib.hid (hm.other o0 (fun _ _ _ _ _ h => h))
  have HL2 := Lib.hid hl2
  have HM2 := Lib.hid hm2
  clear hl hm hl2 hm2
  go_wp2_with fail
  refine (new_any _).mono ?_
  rintro e w1 ⟨b, rfl, -, d1, o1, -⟩
  go_wp2_with fail
  refine (opened_any _ b _ [] _ d1 (by decide) rfl holds_new).mono ?_
  rintro e w2 ⟨jb, ao, cap, fp2, rfl, p1, p2, j2, r2, f2, d2, f2', n2, o2⟩
  have a2 := JAt.opened ((After.nob w0).grow (b := w1) (Nat.le_refl _)) o1 j2 p1 d2 f2' o2
  have l2 := (clean_synced holds_new).1
  clear d1 o1 j2 p1 d2 f2' o2 p2 r2 f2 n2
  have HR : ApRel w0 jb b 1 [] l (.int .i64 (0 : Nat)) w2 := ⟨0, _, _, rfl, Nat.zero_le _, by omega, a2, l2, rfl, by decide⟩
  clear a2 l2
  go_wp2_with fail
  go_loopw [10] (fun iv wr => ApRel w0 jb b 1 [] l iv wr) (fun iv _ => 10 - (intOf iv).toNat)
  case atStart => exact HR
  case round =>
    obtain ⟨k, fd, d, rfl, g1, g2, g3, g4, g5, g6⟩ := hrel
    clear HR
    by_cases hk : k < l.length ∧ k < 10
    · obtain ⟨hk1, hk2⟩ := hk
      obtain ⟨b1, of1, c1, e1, e2⟩ := strs_at (hl0.out.other g3.on (fun _ _ _ _ _ h => h)) hk1
      simp only [Value.slice.injEq] at e1
      obtain ⟨rfl, _, rfl⟩ := e1
      unfold SV at e2
      have h0 : (0 : Int) ≤ (k : Int) := by omega
      have hk3 : (k : Int) < (l.length : Int) := by omega
      have hbc := bytes_cut l k g1
      have hshort := Lib.hid <| show ∀ w, Calls Try.prog 43 #[.string ⟨(l[k]).toArray⟩] w fun e w' => e = .returned (SV ((l[k]).take 200)) ∧ w = w' from fun w => short_SV l[k] w (HL2.out _ (List.getElem_mem hk1))
      have hcs := Lib.hid (cut_succ l k hk1)
      have hrl : ((l[k]).take 200).length ≤ 200 := by rw [List.length_take]; omega
      generalize l[k] = rk at e2 hshort hcs hrl
      go_wp2_with fail
      refine (hshort.out _).mono ?_
      rintro e w' ⟨rfl, rfl⟩
      go_wp2_with fail
      refine (jappend_good _ jb b d ([] ++ cut l k) (rk.take 200) _ g3.jh g3.dk g3.nj g4 (by rw [List.nil_append]; omega) (by omega) g5).mono ?_
      rintro e w5 ⟨d5, rfl, j5, k5, l5, g5', o5⟩
      have a5 := g3.app j5 k5 o5
      have e5 : [] ++ cut l k ++ [rk.take 200] = [] ++ cut l (k + 1) := by rw [hcs.out]; rfl
      rw [e5] at a5 l5
      have c5 := g5'.calls
      have f5 : d5.fail = false := by rw [g5'.fail]; exact g5
      clear e5 j5 k5 o5 g5' g3 g4 g5
      go_wp2_with fail
      go_roundw
      case rel => exact ⟨k + 1, _, _, by simp, hk1, hk2, a5, l5, f5, by omega⟩
      case measure => simp [intOf]; omega
    · obtain ⟨wb, rfl⟩ : ∃ wb : World, wb = wr := ⟨_, rfl⟩
      have hlen : ([] ++ cut l k).length = k := by rw [List.nil_append]; exact cut_len l k g1
      have hby : bytesOf ([] ++ cut l k) ≤ 2160 := by have := bytes_cut l k g1; rw [List.nil_append]; omega
      generalize [] ++ cut l k = L1 at *
      have hL10 : L1.length ≤ 10 := by omega
      have c6 : d.calls ≤ 41 := by omega
      clear g6
      by_cases hk1 : k < l.length
      case' pos =>
        obtain rfl : k = 10 := by omega
        have t1 : (10 : Int) < (l.length : Int) := by omega
        have t2 : ((L1.length : Int) != 10) = false := by rw [hlen]; rfl
        clear hk hk1 g1 g2
      case' neg =>
        obtain rfl : k = l.length := by omega
        have t1 : (l.length : Int) ≤ (10 : Int) := by omega
        have t2 : ((L1.length : Int) != (l.length : Int)) = false := by rw [hlen]; simp
        clear hk hk1 g1 g2
      all_goals
        have HL := Lib.hid hlen
        clear hlen
        go_wp2_with fail
        refine (crash_any _ b d _ [] _ g3.dk (ints_nil _)).mono ?_
        rintro e w6 ⟨c, rfl, pc, d6, o6⟩
        have l6 := g4.crashed []
        go_wp2_with fail
        refine (opened_any _ c _ _ _ d6 (by show 0 < 100000; omega) rfl l6.holds).mono ?_
        rintro e w7 ⟨jc, ao7, cap7, fp7, rfl, p7, p7', j7, r7, f7, d7, f7', n7, o7⟩
        have a7 : JAt wb w7 fp7 jc c _ _ := JAt.opened ((After.nob wb).grow (b := w6) (Nat.le_refl _)) o6 j7 p7 d7 f7' o7
        have l7 := (clean_synced l6.holds).1
        clear d6 o6 j7 d7 f7' o7 p7 p7' pc l6 f7 r7 n7
        have hmr := Lib.hid (hm0.out.other g3.on (fun _ _ _ _ _ h => h))
        have HR2 : ApRel wb jc c 1 L1 m (.int .i64 (0 : Nat)) w7 := ⟨0, _, _, rfl, Nat.zero_le _, by omega, by rw [cut_zero, List.append_nil]; exact a7, by rw [cut_zero, List.append_nil]; exact l7, rfl, by show 0 + 1 ≤ _; omega⟩
        clear a7 l7
        go_wp2_with fail
        go_loopw [15] (fun iv wq => ApRel wb jc c 1 L1 m iv wq) (fun iv _ => 10 - (intOf iv).toNat)
        case atStart => exact HR2
        case round =>
          obtain ⟨k, fe, de, rfl, y1, y2, y3, y4, y5, y6⟩ := hrel
          clear HR2
          by_cases hk : k < m.length ∧ k < 10
          · obtain ⟨hk1, hk2⟩ := hk
            obtain ⟨b1, of1, c1, e1, e2⟩ := strs_at (hmr.out.other y3.on (fun _ _ _ _ _ h => h)) hk1
            simp only [Value.slice.injEq] at e1
            obtain ⟨rfl, _, rfl⟩ := e1
            unfold SV at e2
            have h0 : (0 : Int) ≤ (k : Int) := by omega
            have hk3 : (k : Int) < (m.length : Int) := by omega
            have hbc := bytes_cut m k y1
            have hba := bytesOf_append L1 (cut m k)
            have hshort := Lib.hid <| show ∀ w, Calls Try.prog 43 #[.string ⟨(m[k]).toArray⟩] w fun e w' => e = .returned (SV ((m[k]).take 200)) ∧ w = w' from fun w => short_SV m[k] w (HM2.out _ (List.getElem_mem hk1))
            have hcs := Lib.hid (cut_succ m k hk1)
            have hrl : ((m[k]).take 200).length ≤ 200 := by rw [List.length_take]; omega
            generalize m[k] = rk at e2 hshort hcs hrl
            have hfit : bytesOf (L1 ++ cut m k) + (rk.take 200).length + 272 ≤ 16777216 := by omega
            clear hba
            go_wp2_with fail
            refine (hshort.out _).mono ?_
            rintro e w' ⟨rfl, rfl⟩
            go_wp2_with fail
            refine (jappend_good _ jc c de (L1 ++ cut m k) (rk.take 200) _ y3.jh y3.dk y3.nj y4 hfit (by omega) y5).mono ?_
            rintro e w5 ⟨d5, rfl, j5, k5, l5, g5', o5⟩
            have a5 := y3.app j5 k5 o5
            have e5 : L1 ++ cut m k ++ [rk.take 200] = L1 ++ cut m (k + 1) := by rw [hcs.out, List.append_assoc]
            rw [e5] at a5 l5
            have c5 := g5'.calls
            have f5 : d5.fail = false := by rw [g5'.fail]; exact y5
            clear e5 j5 k5 o5 g5' y3 y4 y5
            go_wp2_with fail
            go_roundw
            case rel => exact ⟨k + 1, _, _, by simp, hk1, hk2, a5, l5, f5, by omega⟩
            case measure => simp [intOf]; omega
          · have hlen2 := cut_len m k y1
            have hlq : (L1 ++ cut m k).length = L1.length + k := by rw [List.length_append, hlen2]
            have htk : (L1 ++ cut m k).take L1.length = L1 := by simp
            have HT := Lib.hid htk
            have u1 : (L1.length : Int) ≤ ((L1 ++ cut m k).length : Int) := by omega
            clear hlen2 htk
            generalize L1 ++ cut m k = L2 at *
            have hdk := g3.dk.other y3.on (fun _ _ h => h)
            by_cases hk1 : k < m.length
            case' pos =>
              obtain rfl : k = 10 := by omega
              have t3 : (10 : Int) < (m.length : Int) := by omega
              have T4 := Lib.hid hlq
              clear hk hk1 y1 y2 hlq
            case' neg =>
              obtain rfl : k = m.length := by omega
              have t3 : (m.length : Int) ≤ (10 : Int) := by omega
              have T4 := Lib.hid hlq
              clear hk hk1 y1 y2 hlq
            all_goals
              go_wp2_with fail
              refine (opened_any _ b _ _ _ hdk (by omega) g5 g4.holds).mono ?_
              rintro e w8 ⟨j8, ao8, cap8, fp8, rfl, p8, p8', jh8, r8, f8, d8, f8', n8, o8⟩
              have nfe : ∀ k, fe k → ¬ fd k := fun k hk hx => by
                have h1 := y3.ad k hk
                have h2 := g3.dk.lt k hx
                omega
              have dk8 := y3.dk.other o8 nfe
              have z3 := y3.on.size
              have O8 : Only Nob w0 w8 := g3.ad.only (g3.on.trans y3.on (fun _ _ h => h)) o8
              go_wp2_with fail
              refine (opened_any _ c _ _ _ dk8 (by omega) y5 y4.holds).mono ?_
              rintro e w9 ⟨j9, ao9, cap9, fp9, rfl, p9, p9', jh9, r9, f9, d9, f9', n9, o9⟩
              have O9 : Only Nob w0 w9 := (fun (h : After w0 fe) => h.only O8 o9) (fun k hk => by have h1 := y3.ad k hk; have h2 := g3.on.size; omega)
              have s8 := r8.other o9 (fun k hk hx => by
                have h1 := (f8 k hk).1
                have h2 := y3.dk.lt k hx
                omega)
              obtain ⟨aoT, haoT, sT⟩ := r9.strs.take L1.length (by omega)
              subst haoT
              rw [HT.out] at sT
              have hSame := same_yes _ _ L1 w9 s8.strs sT (by omega)
              obtain ⟨_, capq, hq, hcq⟩ := own_form r9
              simp only [Value.slice.injEq] at hq
              obtain ⟨_, _, rfl⟩ := hq
              have OT := Lib.hid (o0.trans O9 (fun _ _ h => h))
              clear jh8 d8 f8' n8 o8 jh9 d9 f9' n9 o9 O8 O9 dk8 nfe f8 f9 r8 s8 p8 p8' p9 p9' g3 g4 g5 y3 y4 y5 hdk sT
              have HS := Lib.hid (show ∀ n x, n = L1.length → aoT = x → Calls Try.prog 47 #[Value.slice ao8 L1.length cap8, Value.slice x n cap9] w9 (SamePost w9) from by rintro n x rfl rfl; exact hSame)
              clear hSame
              go_wp2_with fail
              go_ways
              all_goals have q1 := HL.out
              all_goals have q2 := T4.out
              all_goals try (exfalso; omega)
              all_goals
                with_reducible refine (HS.out _ _ q1.symm (by assumption)).mono ?_
                rintro e w10 ⟨rfl, o⟩
                go_wp2_with fail
                go_ret
                exact ⟨by simp, OT.out.trans o (fun _ _ h => h)⟩

end Go.Proofs.Ytdpebdghhgojaaa
