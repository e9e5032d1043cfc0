/- The walk of PatternSamples. -/
import Derived.Test.YtddjbfmohibgbaaDoorSane
import Derived.Test.YtddjbfmohibgbaaDoorMadeA
import Derived.Test.YtddjbfmohibgbaaDoorPlainA
namespace Go.Proofs.YtddjbfmohibgbaaDoor
open Go.RowKit

theorem fair_single {c l m : Int} {t : List UInt8} (hc : Rng c) (hl : Rng l) (hm : Rng m) (ht : t.length ≤ 1000) : Fair [⟨c, l, m, t⟩] := ⟨by simp, fun x hx => by
  obtain rfl := List.mem_singleton.1 hx
  exact ⟨hc, hl, hm, ht⟩⟩
theorem pcs_single {w : World} {b : Nat} {x : Pc} (h : PcRow w b x) : Pcs w (.slice (some ⟨b, 0, none⟩) 1 1) [x] :=
  .inr ⟨by simp, b, 0, 1, rfl, lt_of_heap h, fun i hi => by
    have e : i = 0 := by simpa using hi
    subst e
    exact h.cells.1⟩

theorem made_facts (l : List Int) : (madeL l).length ≤ 5 ∧ (∀ x ∈ madeL l, MadeP 15 x) ∧ Fair (madeL l) := by
  obtain ⟨h1, h2⟩ := made_ok l (min 5 (l.length / 3))
  have h3 : (madeL l).length ≤ 5 := Nat.le_trans h2 (by omega)
  have h4 : ∀ x ∈ madeL l, MadeP 15 x := fun x hx => (h1 x hx).mono (by omega)
  refine ⟨h3, h4, by omega, fun x hx => ?_⟩
  obtain ⟨h5, h6⟩ := h4 x hx
  rcases h5 with ⟨h5, _⟩ | h5
  · obtain ⟨q1, q2, q3, q4, q5, q6, q7⟩ := runB_iff.1 h5
    exact ⟨⟨by omega, by omega⟩, ⟨by omega, by omega⟩, ⟨by omega, by omega⟩, by omega⟩
  · obtain ⟨q1, q2, q3, -⟩ := plainB_iff.1 h5
    exact ⟨⟨by omega, by omega⟩, ⟨by omega, by omega⟩, ⟨by omega, by omega⟩, by omega⟩
theorem sample_facts (l t : List Int) : (sampleL (madeL l) t).length ≤ 95 ∧ allB (sampleL (madeL l) t) 7 = true := by
  obtain ⟨h1, h2, _⟩ := made_facts l
  have h3 := (sample_len t 15 (madeL l) h2).1
  refine ⟨Nat.le_trans h3 (Nat.mul_le_mul_right 19 h1), (sample_dec t (madeL l) (fun x hx => ?_)).2⟩
  rcases (h2 x hx).1 with h | h
  · exact .inl h.1
  · exact .inr h

/-- Made, with what the laws ask of it. -/
theorem made_law (v : Value) (l : List Int) (w : World) (hl : IntsA w v l) : Calls Tryd.prog 17 #[v] w fun e w' => ∃ ao cap, e = .returned (.slice ao (madeL l).length cap) ∧ Pcs w' (.slice ao (madeL l).length cap) (madeL l) ∧ Only Nob w w' := by
  refine (made_any v l w hl).mono ?_
  rintro e w' ⟨ov, rfl, ho, _, hn⟩
  obtain ⟨ao, cap, rfl⟩ := ho.form
  exact ⟨ao, cap, rfl, ho.pcs, hn⟩
theorem sample_law (v tv : Value) (l t : List Int) (w : World) (hp : Pcs w v (madeL l)) (ht : IntsA w tv t) : Calls Tryd.prog 24 #[v, tv] w (StrPost (sampleL (madeL l) t) w) :=
  sample_any v tv (madeL l) t w hp ht (made_facts l).1 (made_facts l).2.1

set_option maxRecDepth 100000 in
set_option maxHeartbeats 4000000 in
theorem samples_law (v : Value) (l : List Int) (tv : Value) (t : List Int) (w : World) (hl : IntsA w v l) (ht : IntsA w tv t) (tab : Tab w) : Calls Tryd.prog 5 #[v, tv] w (BoolPost true w) := by
  obtain ⟨ao, cap, rfl⟩ := hl.form
  obtain ⟨bo, bcap, rfl⟩ := ht.form
  have HT := Lib.hid tab
  have SN := Lib.hid (sanity_any w tab)
  have HL := Lib.hid hl
  have HI := Lib.hid ht
  clear tab hl ht
  go_enter Tryd.func5, Tryd.ntmps5
  go_wp2_with fail
  refine SN.out.mono ?_
  rintro e w1 ⟨rfl, o1⟩
  have O1 := Lib.hid o1
  clear o1 SN
  go_wp2_with fail
  refine (made_law _ l w1 (HL.out.nob O1.out)).mono ?_
  rintro e w2 ⟨pa, pc, rfl, hp, o2⟩
  have HP := Lib.hid hp
  have O2 := Lib.hid (O1.out.nob o2)
  clear o2 hp O1
  go_wp2_with fail
  refine (sample_law _ _ l t w2 HP.out (HI.out.nob O2.out)).mono ?_
  rintro e w3 ⟨rfl, o3⟩
  have HP3 := Lib.hid (HP.out.nob o3)
  have O3 := Lib.hid (O2.out.nob o3)
  obtain ⟨hs1, hs2⟩ := sample_facts l t
  have HF := Lib.hid (made_facts l).2.2
  have HSM := Lib.hid (fun h1 => sample_match (l := t) (p := madeL l) h1)
  have HA := Lib.hid hs2
  clear o3 HP O2 hs2
  generalize sampleL (madeL l) t = S at *
  generalize madeL l = P at *
  have hs200 : ¬ (200 : Int) < (S.length : Int) := by omega
  cases hr : rightB P
  · have hpr : printS P = [] := by unfold printS; rw [hr]; rfl
    have PR := Lib.hid (print_any _ P w3 HP3.out HF.out (HT.out.other O3.out))
    rw [hpr] at PR
    clear hr hpr
    go_wp2_with fail
    refine PR.out.mono ?_
    rintro e w4 ⟨rfl, o4⟩
    have O4 := Lib.hid (O3.out.nob o4)
    clear o4
    go_wp2_with fail
    go_ret
    exact ⟨rfl, O4.out⟩
  · cases hw : writtenS P with
    | nil =>
      have hpr : printS P = [] := by unfold printS; rw [hr, hw]; rfl
      have PR := Lib.hid (print_any _ P w3 HP3.out HF.out (HT.out.other O3.out))
      rw [hpr] at PR
      clear hr hpr hw
      go_wp2_with fail
      refine PR.out.mono ?_
      rintro e w4 ⟨rfl, o4⟩
      have O4 := Lib.hid (O3.out.nob o4)
      clear o4
      go_wp2_with fail
      go_ret
      exact ⟨rfl, O4.out⟩
    | cons c cs =>
      have hpr : printS P = c :: cs := by unfold printS; rw [hr, hw]; rfl
      have PR := Lib.hid (print_any _ P w3 HP3.out HF.out (HT.out.other O3.out))
      rw [hpr] at PR
      have HM := Lib.hid (HSM.out hr (by omega))
      clear hpr hw HSM
      go_wp2_with fail
      refine PR.out.mono ?_
      rintro e w4 ⟨rfl, o4⟩
      have O4 := Lib.hid (O3.out.nob o4)
      have HP4 := Lib.hid (HP3.out.nob o4)
      clear o4
      have MM := Lib.hid (matches_any _ P S w4 HP4.out HF.out (HT.out.other O4.out) (by omega))
      rw [HM.out] at MM
      go_wp2_with fail
      refine MM.out.mono ?_
      rintro e w5 ⟨rfl, o5⟩
      have O5 := Lib.hid (O4.out.nob o5)
      clear o5 MM
      have MW := Lib.hid (fun h0 => match_whole (s := S) h0 (by omega) HA.out)
      cases S with
      | nil =>
        go_wp2_with fail
        go_ret
        exact ⟨rfl, O5.out⟩
      | cons d ds =>
        have hwl : (((d :: ds).length : Nat) : Int) = (ds.length : Int) + 1 := by simp
        have oA : Only Nob w5 (w5.alloc (.cells #[.int .i64 7, .int .i64 ((ds.length : Int) + 1), .int .i64 ((ds.length : Int) + 1), .string ⟨#[]⟩] 31)) := Only.alloc _ _ _
        have z0 : PcRow (w5.alloc (.cells #[.int .i64 7, .int .i64 ((ds.length : Int) + 1), .int .i64 ((ds.length : Int) + 1), .string ⟨#[]⟩] 31)) w5.heap.size ⟨7, (ds.length : Int) + 1, (ds.length : Int) + 1, []⟩ := PcRow.new w5 ⟨7, (ds.length : Int) + 1, (ds.length : Int) + 1, []⟩
        have hsl : ds.length + 1 ≤ 95 := by simpa using hs1
        have M2 := matches_any _ [⟨7, (ds.length : Int) + 1, (ds.length : Int) + 1, []⟩] (d :: ds) _ (pcs_single z0) (fair_single ⟨by omega, by omega⟩ ⟨by omega, by omega⟩ ⟨by omega, by omega⟩ (by simp)) (HT.out.other (O5.out.nob oA)) (by simp; omega)
        have hmw := MW.out (by simp)
        rw [hwl] at hmw
        rw [hmw] at M2
        have MH := Lib.hid M2
        have OA := Lib.hid (O5.out.nob oA)
        clear M2 hmw hwl z0 oA MW
        go_wp2_with fail
        refine MH.out.mono ?_
        rintro e w6 ⟨rfl, o6⟩
        have O6 := Lib.hid (OA.out.nob o6)
        clear o6
        go_wp2_with fail
        go_ret
        exact ⟨rfl, O6.out⟩

end Go.Proofs.YtddjbfmohibgbaaDoor
