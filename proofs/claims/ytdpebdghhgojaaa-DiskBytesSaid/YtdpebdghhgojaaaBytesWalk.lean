/- The walk of DiskBytes. -/
import Derived.Test.YtdpebdghhgojaaaOwn
import Derived.Test.YtdpebdghhgojaaaBytesLaw
namespace Go.Proofs.Ytdpebdghhgojaaa
open Go.RowKit

theorem read_full (d : DS) : d.read 0 d.now.length = d.now := by
  unfold DS.read
  by_cases h : d.now.length = 0
  · rw [if_pos (.inr (by omega)), List.eq_nil_of_length_eq_zero h]
  · rw [if_neg (by omega)]
    simp

theorem bytes_cases (g aA : ByteArray) (n0 n2 k : Nat) (hk : k < g.size)
    (h : (∃ h2 : k < aA.data.toList.length, g[k] = aA.data.toList[k]) ∨ (n0 ≤ k ∧ k < n0 + n2 ∧ g[k] = 238) ∨ (aA.data.toList.length ≤ k ∧ g[k] = 0)) :
    (∃ hA : k < aA.size, (((g[k].toNat : Int)) == (aA[k].toNat : Int)) = true ∧ k < n0) ∨
    (∃ hA : k < aA.size, (((g[k].toNat : Int)) == (aA[k].toNat : Int)) = true ∧ n0 ≤ k ∧ k < n0 + n2) ∨
    (∃ hA : k < aA.size, (((g[k].toNat : Int)) == (aA[k].toNat : Int)) = true ∧ n0 ≤ k ∧ ¬ k < n0 + n2) ∨
    (∃ hA : k < aA.size, (((g[k].toNat : Int)) == (aA[k].toNat : Int)) = false ∧ n0 ≤ k ∧ k < n0 + n2 ∧ ((g[k].toNat : Int) == 238) = true) ∨
    (¬ k < aA.size ∧ n0 ≤ k ∧ k < n0 + n2 ∧ ((g[k].toNat : Int) == 238) = true) ∨
    (¬ k < aA.size ∧ ((g[k].toNat : Int) == 0) = true ∧ k < n0) ∨
    (¬ k < aA.size ∧ ((g[k].toNat : Int) == 0) = true ∧ n0 ≤ k ∧ ¬ k < n0 + n2) ∨
    (¬ k < aA.size ∧ ((g[k].toNat : Int) == 0) = true ∧ n0 ≤ k ∧ k < n0 + n2 ∧ ((g[k].toNat : Int) == 238) = false) := by
  have hl : aA.data.toList.length = aA.size := by simp
  by_cases h238 : n0 ≤ k ∧ k < n0 + n2 ∧ g[k] = 238
  · have hb : ((g[k].toNat : Int) == 238) = true := by rw [h238.2.2]; rfl
    by_cases hA : k < aA.size
    · by_cases hB : (((g[k].toNat : Int)) == (aA[k].toNat : Int)) = true
      · exact .inr (.inl ⟨hA, hB, h238.1, h238.2.1⟩)
      · exact .inr (.inr (.inr (.inl ⟨hA, by simpa using hB, h238.1, h238.2.1, hb⟩)))
    · exact .inr (.inr (.inr (.inr (.inl ⟨hA, h238.1, h238.2.1, hb⟩))))
  · rcases h with ⟨hA, e⟩ | h | ⟨hA, e⟩
    · have hb : (((g[k].toNat : Int)) == (aA[k].toNat : Int)) = true := by
        have e' : g[k] = aA[k] := e
        rw [e']; simp
      by_cases c1 : k < n0
      · exact .inl ⟨hA, hb, c1⟩
      · by_cases c2 : k < n0 + n2
        · exact .inr (.inl ⟨hA, hb, by omega, c2⟩)
        · exact .inr (.inr (.inl ⟨hA, hb, by omega, c2⟩))
    · exact absurd h h238
    · have hb : ((g[k].toNat : Int) == 0) = true := by rw [e]; rfl
      by_cases c1 : k < n0
      · exact .inr (.inr (.inr (.inr (.inr (.inl ⟨by omega, hb, c1⟩)))))
      · by_cases c2 : k < n0 + n2
        · exact .inr (.inr (.inr (.inr (.inr (.inr (.inr ⟨by omega, hb, by omega, c2, by rw [e]; rfl⟩))))))
        · exact .inr (.inr (.inr (.inr (.inr (.inr (.inl ⟨by omega, hb, by omega, c2⟩))))))

def BytesRel (g : ByteArray) (w : World) (iv : Value) (wr : World) : Prop := ∃ k : Nat, iv = .int .i64 k ∧ k ≤ g.size ∧ Only Nob w wr

set_option maxRecDepth 100000 in
set_option maxHeartbeats 4000000 in
theorem bytes_walk (s : ByteArray) (t0 t1 : Int) (vq : Value) (zs : List Int) (w : World) (hs : s.size ≤ 9223372036854775807) (ht0 : Rng t0) (ht1 : Rng t1) (hq : Ints w vq zs) :
    Calls Try.prog 5 #[.string s, .agg #[.int .i64 t0, .int .i64 t1], vq] w fun e w' => e = .returned (.bool true) ∧ Only Nob w w' := by
  have m0 : 0 ≤ t0 % 250 := Int.emod_nonneg _ (by omega)
  have m1 : t0 % 250 < 250 := Int.emod_lt_of_pos _ (by omega)
  have m2 : 0 ≤ t1 % 200 := Int.emod_nonneg _ (by omega)
  have m3 : t1 % 200 < 200 := Int.emod_lt_of_pos _ (by omega)
  obtain ⟨n0, hn0⟩ := Int.eq_ofNat_of_zero_le m0
  obtain ⟨n1, hn1⟩ := Int.eq_ofNat_of_zero_le m2
  have M0 := Lib.hid <| show ∀ w, Calls Try.prog 28 #[.int .i64 t0, .int .i64 250] w fun e w' => e = .returned (.int .i64 (n0 : Nat)) ∧ w = w' from fun w => by have h := mod_any t0 250 w ht0 (by omega) (by omega); rw [hn0] at h; exact h
  have M1 := Lib.hid <| show ∀ w, Calls Try.prog 28 #[.int .i64 t1, .int .i64 200] w fun e w' => e = .returned (.int .i64 (n1 : Nat)) ∧ w = w' from fun w => by have h := mod_any t1 200 w ht1 (by omega) (by omega); rw [hn1] at h; exact h
  obtain ⟨n2, hn2⟩ : ∃ n2 : Nat, n2 = 1 + n1 := ⟨_, rfl⟩
  have M2 := Lib.hid <| show ∀ w, Calls Try.prog 32 #[.int .u8 238, .int .i64 (n2 : Nat)] w (LongPost ⟨(List.replicate n2 238).toArray⟩ w) from fun w => repeated_any 238 n2 w (by omega)
  have hsum : IntKind.i64.wrap (1 + (n1 : Nat)) = (n2 : Nat) := by rw [IntWalk.i64_in _ (by omega)]; omega
  have hsum2 : IntKind.i64.wrap ((n0 : Nat) + (n2 : Nat)) = ((n0 + n2 : Nat) : Int) := by rw [IntWalk.i64_in _ (by omega)]; omega
  have hb0 : n0 < 250 ∧ n2 ≤ 200 := ⟨by omega, by omega⟩
  clear hn0 hn1 hn2 m0 m1 m2 m3
  have ob : Only Nob w (w.alloc (.cells #[.int .i64 t0, .int .i64 t1] 42)) := Only.alloc _ _ _
  have hP := PairAt.new w t0 t1
  have HQ := Lib.hid hq
  clear hq
  have HB := Lib.hid (show (s.extract 0 200).size ≤ 200 by rw [ByteArray.size_extract]; omega)
  have HS := Lib.hid (show (⟨(List.replicate n2 238).toArray⟩ : ByteArray).size = n2 by simp [ByteArray.size])
  generalize hBB : (⟨(List.replicate n2 238).toArray⟩ : ByteArray) = aB at *
  have HBB := Lib.hid (show aB.data.toList = List.replicate n2 238 by rw [← hBB])
  have haB := HS.out
  clear hBB
  by_cases hs200 : s.size ≤ 200
  all_goals
    go_enter Try.func5, Try.ntmps5
    go_wp2_with fail
    refine (sanity_any _).mono ?_
    rintro e w0 ⟨rfl, o0⟩
    go_wp2_with fail
    refine (new_any _).mono ?_
    rintro e w1 ⟨b, rfl, -, d1, o1, -⟩
    have n1 := (Since.nob w0).grow (b := w1) (Nat.le_refl _)
    have a01 : Only Nob (w.alloc (.cells #[.int .i64 t0, .int .i64 t1] 42)) w1 := o0.trans o1 (fun _ _ h => h)
    have hP1 := hP.other a01 (fun h => h)
    obtain ⟨p0, p1⟩ := hP1
    go_wp2_with fail
    first
      | (have hAs : s.size ≤ 200 := hs200; generalize hA : s = aA; rw [hA] at hAs)
      | (have hAs := HB.out; generalize hA : s.extract 0 200 = aA; rw [hA] at hAs)
    clear hA
    refine (M0.out _).mono ?_
    rintro e w' ⟨rfl, rfl⟩
    go_wp2_with fail
    refine (M1.out _).mono ?_
    rintro e w' ⟨rfl, rfl⟩
    go_wp2_with fail
    refine (M2.out _).mono ?_
    rintro e w2 ⟨rfl, o2⟩
    have d2 := d1.other o2 (fun _ _ h => h)
    have a02 := a01.trans o2 (fun _ _ h => h)
    go_wp2_with fail
    refine (write_fine _ b 0 aA _ _ d2 (by decide) rfl (by omega) (by omega)).mono ?_
    rintro e w3 ⟨rfl, d3, o3⟩
    have q1 := n1.only (o1.trans o2 (fun _ _ h => h)) o3
    go_wp2_with fail
    have k2 := n1.grow (b := w3) (o1.trans o2 (fun _ _ h => h)).size
    refine (sync_fine _ b _ _ d3 (by show (1 : Nat) < 100000; decide) rfl).mono ?_
    rintro e w4 ⟨rfl, d4, o4⟩
    have q2 := k2.only q1 o4
    have k3 := k2.grow (b := w4) q1.size
    go_wp2_with fail
    refine (write_fine _ b n0 aB _ _ d4 (by show (2 : Nat) < 100000; decide) rfl (by omega) (by omega)).mono ?_
    rintro e w5 ⟨rfl, d5, o5⟩
    have q3 := k3.only q2 o5
    have hq5 := HQ.out.other (ob.trans (o0.trans q3 (fun _ _ h => h)) (fun _ _ h => h)) (fun _ _ _ _ _ h => h)
    go_wp2_with fail
    refine (crash_any _ b _ vq zs _ d5 hq5).mono ?_
    rintro e w6 ⟨cb, rfl, -, d6, o6⟩
    have q4 := q3.trans o6 (fun _ _ h => h)
    have hB0 := crash_bytes zs aA.data.toList n0 n2 238
    have hnow : (((((DS.new.written (0 : Int).toNat aA.data.toList).synced).written (n0 : Int).toNat aB.data.toList)).crashed zs).now = crashF zs aA.data.toList 0 (parts n0 (List.replicate n2 238)) := by
      rw [← HBB.out]
      have e0 : put [] 0 aA.data.toList = aA.data.toList := by simp [put]
      show crashF zs (put [] 0 aA.data.toList) 0 ([] ++ parts n0 aB.data.toList) = _
      rw [e0]; rfl
    rw [← hnow] at hB0
    clear hnow d1 d2 d3 d4 d5 n1 k2 k3 a01 p0 p1
    generalize ((((DS.new.written (0 : Int).toNat aA.data.toList).synced).written (n0 : Int).toNat aB.data.toList)).crashed zs = dc at d6 hB0
    obtain ⟨g1, g2, g3⟩ := hB0
    have hAl : aA.data.toList.length = aA.size := by simp
    rw [hAl] at g1 g2
    have G3 := Lib.hid g3
    clear g3 hAl
    go_wp2_with fail
    refine (size_any _ cb dc _ d6).mono ?_
    rintro e w' ⟨rfl, rfl⟩
    go_wp2_with fail
    refine (size_any _ cb dc _ d6).mono ?_
    rintro e w' ⟨rfl, rfl⟩
    go_wp2_with fail
    all_goals
      refine (size_any _ cb dc _ d6).mono ?_
      rintro e w' ⟨rfl, rfl⟩
      go_wp2_with fail
      refine (read_all _ cb 0 dc.now.length dc _ d6 (rng_small (by omega) (by omega)) (rng_small (by omega) (by omega))).mono ?_
      rintro e w7 ⟨rfl, o7⟩
      rw [read_full]
      have d7 := d6.other o7 (fun _ _ h => h)
      have hgz : (⟨dc.now.toArray⟩ : ByteArray).size = dc.now.length := rfl
      go_wp2_with fail
      refine (size_any _ cb dc _ d7).mono ?_
      rintro e w' ⟨rfl, rfl⟩
      have fin : Only Nob w w7 := ob.trans (o0.trans (q4.trans o7 (fun _ _ h => h)) (fun _ _ h => h)) (fun _ _ h => h)
      have HG := Lib.hid (show ∀ i (h : i < (⟨dc.now.toArray⟩ : ByteArray).size), (∃ h2 : i < aA.data.toList.length, (⟨dc.now.toArray⟩ : ByteArray)[i] = aA.data.toList[i]) ∨ (n0 ≤ i ∧ i < n0 + n2 ∧ (⟨dc.now.toArray⟩ : ByteArray)[i] = 238) ∨ (aA.data.toList.length ≤ i ∧ (⟨dc.now.toArray⟩ : ByteArray)[i] = 0) from fun i h => G3.out i h)
      rw [← hgz]
      rw [← hgz] at g1 g2
      clear hgz d7 o7 q4 d6 q1 q2 q3 o1 o2 o3 o4 o5 o6
      generalize (⟨dc.now.toArray⟩ : ByteArray) = g at HG g1 g2 ⊢
      go_wp2_with fail
      have HR : BytesRel g w (.int .i64 (0 : Nat)) w7 := ⟨0, rfl, Nat.zero_le _, fin⟩
      go_loopw [17] (fun iv wr => BytesRel g w iv wr) (fun iv _ => g.size - (intOf iv).toNat)
      case atStart => exact HR
      case round =>
        obtain ⟨k, rfl, e1, e2⟩ := hrel
        clear HR
        have od := Only.drew Nob wr
        by_cases hk : k < g.size
        · rcases bytes_cases g aA n0 n2 k hk (HG.out k hk) with ⟨hA, x1, x2⟩ | ⟨hA, x1, x2, x3⟩ | ⟨hA, x1, x2, x3⟩ | ⟨hA, x1, x2, x3, x4⟩ | ⟨hA, x1, x2, x3⟩ | ⟨hA, x1, x2⟩ | ⟨hA, x1, x2, x3⟩ | ⟨hA, x1, x2, x3, x4⟩
          all_goals
            go_wp2_with fail
            go_region
            try go_wp2
            all_goals go_roundw
            all_goals first | exact ⟨k + 1, by simp, by omega, e2.trans od (fun _ _ h => h)⟩ | (simp [intOf]; omega)
        · go_wp2
          go_ret
          exact ⟨rfl, e2⟩
end Go.Proofs.Ytdpebdghhgojaaa
