/- The walk of JournalFull. -/
import Derived.Test.YtdpebdghhgojaaaJSanity
import Derived.Test.YtdpebdghhgojaaaJArgs
namespace Go.Proofs.Ytdpebdghhgojaaa
open Go.RowKit

/-- The text of zeros of which the records are cut. -/
def TX (w : World) (bt : Nat) : Prop := ∃ N : Nat, N = 16777216 ∧ Row w (.slice (some ⟨bt, 0, none⟩) N N) (List.replicate N 0)

theorem TX.other {S : Nat → Prop} {w w' : World} {bt : Nat} (h : TX w bt) (o : Only S w w') (hn : ¬ S bt) : TX w' bt := by
  obtain ⟨N, hN, hr⟩ := h
  exact ⟨N, hN, hr.other o (fun k hk => by
    have : bt = k := by simpa [Blk, Value.ownBlock] using hk
    rw [← this]; exact hn)⟩
theorem TX.lt {w : World} {bt : Nat} (h : TX w bt) : bt < w.heap.size := by
  obtain ⟨N, hN, hr⟩ := h
  exact hr.lt (k := bt) (by simp [Blk, Value.ownBlock])
theorem TX.str {w : World} {bt : Nat} (h : TX w bt) (n : Nat) (hn : n ≤ 16777216) : (convert 56 9 (.slice (some ⟨bt, 0, none⟩) n 16777216)).run Try.prog w = .ok (.string ⟨(List.replicate n (0 : UInt8)).toArray⟩) w := by
  obtain ⟨N, hN, hr⟩ := h
  have hs := hr.src (by simp)
  have := run_convert_bytes_back (P := Try.prog) w 56 9 5 ⟨bt, 0, none⟩ 16777216 (List.replicate n 0) Try.underlying56 Try.underlying5 Try.underlying9 (fun j hj => by
    have hj' : j < n := by rw [List.length_replicate] at hj; exact hj
    have hj2 : j < N := by omega
    have h2 := hs.cells.2 j (.int .u8 0) (by simp [cellsB, hj2])
    simpa using h2)
  simpa using this
theorem TX.cut {w : World} {bt : Nat} (h : TX w bt) (n : Nat) (hn : n ≤ 16777216) : ∃ r : List UInt8, r.length = n ∧ (convert 56 9 (.slice (some ⟨bt, 0, none⟩) n 16777216)).run Try.prog w = .ok (.string ⟨r.toArray⟩) w := ⟨List.replicate n 0, by simp, h.str n hn⟩
theorem TX.made (w : World) : ∃ wz : World, (Instr.makeSlice 56 (.int .i64 16777216) (.int .i64 16777216)).run Try.prog w = .ok (.slice (some ⟨w.heap.size, 0, none⟩) 16777216 16777216) wz ∧ TX wz w.heap.size ∧ Only Nob w wz := by
  obtain ⟨N, hN⟩ : ∃ N : Nat, N = 16777216 := ⟨_, rfl⟩
  have h := run_zeros w N (by omega)
  refine ⟨zeroWorld w N, ?_, ⟨N, hN, zeroWorld_row w N (by omega)⟩, zeroWorld_only w N⟩
  rw [hN] at h ⊢
  exact h

/-- The loop that appends the records. -/
def FlRel (W : World) (jb b bt : Nat) (zs : List Int) (iv bv mv : Value) (wr : World) : Prop :=
  ∃ (k B m : Nat) (fd : Nat → Prop) (d : DS) (L : List (List UInt8)), iv = .int .i64 k ∧ bv = .int .i64 B ∧ mv = .int .i64 m ∧ B = bytesOf L ∧ m = L.length ∧ m ≤ k ∧ (k ≤ 6 ∧ k ≤ zs.length) ∧ JAt W wr fd jb b (jsOf L) d ∧ Clean d L ∧ d.fail = false ∧ d.calls ≤ 1 + 4 * k ∧ B + 256 ≤ 16777216 ∧ TX wr bt ∧ ¬ fd bt ∧ bt ≠ jb

theorem KInts.get {k : IntKind} {w : World} {v : Value} {zs : List Int} {i : Nat} (h : KInts k w v zs) (hi : i < zs.length) : ∃ b off cap, v = .slice (some ⟨b, off, none⟩) zs.length cap ∧ w.cell? ⟨b, off + i, none⟩ = some (.int k (zs.getD i 0)) ∧ (Lit.int k (zs.getD i 0)).wf = true := by
  rcases h.1 with ⟨rfl, _⟩ | ⟨_, b, off, cap, rfl, _, hc⟩
  · simp at hi
  · exact ⟨b, off, cap, rfl, hc i hi, h.2 _ (by rw [List.getD_eq_getElem?_getD, List.getElem?_eq_getElem hi]; exact List.getElem_mem hi)⟩

theorem u32_mod (z m : Int) (h0 : 0 < m) (h1 : m ≤ 4294967296) (hz : 0 ≤ z ∧ z ≤ 4294967295) : ∃ n : Nat, wrap64 (z.tmod m) = n ∧ (n : Int) < m := by
  have e : z.tmod m = z % m := Int.tmod_eq_emod_of_nonneg hz.1
  have e1 : 0 ≤ z % m := Int.emod_nonneg _ (by omega)
  have e2 : z % m < m := Int.emod_lt_of_pos _ h0
  refine ⟨(z % m).toNat, ?_, by omega⟩
  rw [e]
  unfold wrap64
  omega

set_option maxRecDepth 100000 in
set_option maxHeartbeats 4000000 in
theorem full_walk (vz : Value) (zs : List Int) (last : Int) (w : World) (hz : U32s w vz zs) (hl : 0 ≤ last ∧ last ≤ 4294967295) :
    Calls Try.prog 17 #[vz, .int .u32 last] w fun e w' => e = .returned (.bool true) ∧ Only Nob w w' := by
  obtain ⟨az, cz, rfl, hzl⟩ := hz.form
  obtain ⟨nl, hnl, hnl2⟩ := u32_mod last 16777216 (by omega) (by omega) hl
  clear hl
  go_enter Try.func17, Try.ntmps17
  go_wp2_with fail
  refine (jsanity_any _).mono ?_
  rintro e w0 ⟨rfl, o0⟩
  have hz0 := Lib.hid (hz.other o0 (fun _ _ _ _ _ h => h))
  clear hz
  go_wp2_with fail
  refine (new_any _).mono ?_
  rintro e w1 ⟨b, rfl, -, d1, o1, -⟩
  go_wp2_with fail
  refine (opened_any _ b _ [] _ d1 (by decide) rfl holds_new).mono ?_
  rintro e w2 ⟨jb, ao, cap, fp2, rfl, p1, p2, j2, r2, f2, d2, f2', n2, o2⟩
  have a2 := JAt.opened ((After.nob w0).grow (b := w1) (Nat.le_refl _)) o1 j2 p1 d2 f2' o2
  have l2 := (clean_synced holds_new).1
  clear d1 o1 j2 p1 d2 f2' o2 p2 r2 f2 n2
  obtain ⟨w3, hmk, t3, o3⟩ := TX.made w2
  go_wp2_with fail
  have t0 := TX.lt t3
  have HR : FlRel w0 jb b w2.heap.size zs (.int .i64 (0 : Nat)) (.int .i64 (0 : Nat)) (.int .i64 (0 : Nat)) w3 := ⟨0, 0, 0, _, _, [], rfl, rfl, rfl, by simp [bytesOf], rfl, Nat.le_refl _, ⟨by omega, Nat.zero_le _⟩, a2.quiet o3, l2, rfl, by decide, by omega, t3, fun h => by have := a2.dk.lt _ h; omega, fun h => by have := a2.jh.lt; omega⟩
  clear a2 l2 t3 hmk o3 t0
  generalize w2.heap.size = bt at *
  go_loopw [13, 10, 11] (fun iv bv mv wr => FlRel w0 jb b bt zs iv bv mv wr) (fun iv _ _ _ => 6 - (intOf iv).toNat)
  case atStart => exact HR
  case round =>
    obtain ⟨k, B, m, fd, d, L, rfl, rfl, rfl, g1, g2, g3, g4, g5, g6, g7, g8, g9, g10, g11, g12⟩ := hrel
    clear HR
    by_cases hk : k < zs.length ∧ k < 6
    · obtain ⟨hk1, hk2⟩ := hk
      obtain ⟨bz, oz, cz', e1, e2, e3⟩ := KInts.get (hz0.out.other g5.on (fun _ _ _ _ _ h => h)) hk1
      simp only [Value.slice.injEq] at e1
      obtain ⟨rfl, _, rfl⟩ := e1
      have hz := bounds_u32 e3
      generalize zs.getD k 0 = z at e2 hz
      obtain ⟨n, hn, hn2⟩ := u32_mod z 8388608 (by omega) (by omega) hz
      have h6 : (k : Int) < 6 := by omega
      have G1 := Lib.hid g1
      have G2 := Lib.hid g2
      clear g1 g2
      have h0 : (0 : Int) ≤ (k : Int) := by omega
      have hk3 : (k : Int) < (zs.length : Int) := by omega
      obtain ⟨r, hrl, hcv⟩ := g10.cut n (by omega)
      clear hz e3
      obtain ⟨q1, h1'⟩ : ∃ q : Nat, q = B + n := ⟨_, rfl⟩
      obtain ⟨q2, h2'⟩ : ∃ q : Nat, q = q1 + 16 := ⟨_, rfl⟩
      obtain ⟨q3, h3'⟩ : ∃ q : Nat, q = q2 + 256 := ⟨_, rfl⟩
      have s1 : IntKind.i64.wrap ((B : Int) + (n : Int)) = (q1 : Int) := by rw [IntWalk.i64_in _ (by omega)]; omega
      have s2 : IntKind.i64.wrap ((q1 : Int) + 16) = (q2 : Int) := by rw [IntWalk.i64_in _ (by omega)]; omega
      have s3 : IntKind.i64.wrap ((q2 : Int) + 256) = (q3 : Int) := by rw [IntWalk.i64_in _ (by omega)]; omega
      by_cases hfit : B + n + 272 ≤ 16777216
      · have s4 : decide ((16777216 : Int) < (q3 : Int)) = false := by rw [decide_eq_false_iff_not]; omega
        have hRL := Lib.hid hrl
        have G9 := Lib.hid g9
        have HF := Lib.hid hfit
        have HQ := Lib.hid (show q2 = B + n + 16 by omega)
        clear hrl g9 hfit h1' h2' h3'
        go_wp2_with fail
        refine (jappend_good _ jb b d L r _ g5.jh g5.dk g5.nj g6 (by rw [← G1.out, hRL.out]; exact HF.out) (by omega) g7).mono ?_
        rintro e w5 ⟨d5, rfl, j5, k5, l5, g5', o5⟩
        have a5 := g5.app j5 k5 o5
        have c5 := g5'.calls
        have f5 : d5.fail = false := by rw [g5'.fail]; exact g7
        have t5 := g10.other o5 (fun h => by rcases h with h | h; exact g11 h; exact g12 h)
        have nf5 : ¬ grow fd wr w5 bt := fun h => by
          have := g10.lt
          rcases h with h | ⟨h, _⟩
          · exact g11 h
          · omega
        clear j5 k5 o5 g5' g5 g6 g7 g10 g11
        go_wp2_with fail
        go_roundw
        case rel => exact ⟨k + 1, q2, m + 1, _, d5, L ++ [r], by simp, rfl, by simp, by rw [HQ.out, bytesOf_snoc, hRL.out, ← G1.out], by rw [List.length_append, ← G2.out]; rfl, by omega, ⟨by omega, by omega⟩, a5, l5, f5, by omega, by have h1 := HQ.out; have h2 := HF.out; omega, t5, nf5, g12⟩
        case measure => simp [intOf]; omega
      · have s4 : decide ((16777216 : Int) < (q3 : Int)) = true := by rw [decide_eq_true_iff]; omega
        have hRL := Lib.hid hrl
        have G9 := Lib.hid g9
        have HF := Lib.hid hfit
        clear hrl g9 hfit h1' h2' h3'
        go_wp2_with fail
        refine (append_full jb b (jsOf L) r _ g5.jh rfl (by have := G9.out; show bytesOf L ≤ _; rw [← G1.out]; omega) (by rw [hRL.out]; omega) (by have := HF.out; show _ < bytesOf L + _ + _; rw [← G1.out, hRL.out]; omega)).mono ?_
        rintro e w5 ⟨rfl, o5⟩
        have a5 := g5.quiet o5
        have t5 := g10.other o5 (fun h => h)
        clear g5 g10
        go_wp2_with fail
        go_roundw
        case rel => exact ⟨k + 1, B, m, _, d, L, by simp, rfl, rfl, G1.out, G2.out, by omega, ⟨by omega, by omega⟩, a5, g6, g7, by omega, G9.out, t5, g11, g12⟩
        case measure => simp [intOf]; omega
    · obtain ⟨wb, rfl⟩ : ∃ wb : World, wb = wr := ⟨_, rfl⟩
      have G1 := Lib.hid g1
      have G2 := Lib.hid g2
      clear g1 g2
      obtain ⟨r, hrl, hcv⟩ := g10.cut nl (by omega)
      obtain ⟨q1, h1'⟩ : ∃ q : Nat, q = B + nl := ⟨_, rfl⟩
      obtain ⟨q2, h2'⟩ : ∃ q : Nat, q = q1 + 16 := ⟨_, rfl⟩
      obtain ⟨q3, h3'⟩ : ∃ q : Nat, q = q2 + 256 := ⟨_, rfl⟩
      have s1 : IntKind.i64.wrap ((B : Int) + (nl : Int)) = (q1 : Int) := by rw [IntWalk.i64_in _ (by omega)]; omega
      have s2 : IntKind.i64.wrap ((q1 : Int) + 16) = (q2 : Int) := by rw [IntWalk.i64_in _ (by omega)]; omega
      have s3 : IntKind.i64.wrap ((q2 : Int) + 256) = (q3 : Int) := by rw [IntWalk.i64_in _ (by omega)]; omega
      have c6 : d.calls ≤ 25 := by omega
      have m6 : m ≤ 6 := by omega
      have hRL := Lib.hid hrl
      have G9 := Lib.hid g9
      by_cases hk1 : k < zs.length
      case' pos =>
        obtain rfl : k = 6 := by omega
        have t1 : (6 : Int) < (zs.length : Int) := by omega
        clear hk hk1 g8 g3 g4
      case' neg =>
        obtain rfl : k = zs.length := by omega
        have t1 : (zs.length : Int) ≤ (6 : Int) := by omega
        clear hk hk1 g8 g3 g4
      all_goals
        by_cases hfit : B + nl + 272 ≤ 16777216
        case' pos =>
          have s4 : decide ((q3 : Int) ≤ (16777216 : Int)) = true := by rw [decide_eq_true_iff]; omega
        case' neg =>
          have s4 : decide ((q3 : Int) ≤ (16777216 : Int)) = false := by rw [decide_eq_false_iff_not]; omega
        all_goals
          have HF := Lib.hid hfit
          clear hrl g9 hfit h1' h2' h3'
        case pos =>
          go_wp2_with fail
          refine (jappend_good _ jb b d L r _ g5.jh g5.dk g5.nj g6 (by rw [← G1.out, hRL.out]; exact HF.out) (by omega) g7).mono ?_
          rintro e w5 ⟨d5, rfl, j5, k5, l5, g5', o5⟩
          have a5 := g5.app j5 k5 o5
          have c5 := g5'.calls
          clear j5 k5 o5 g5' g5 g6 g7 g10 g11
          have HL : (L ++ [r]).length = m + 1 := by rw [List.length_append, ← G2.out]; rfl
          generalize L ++ [r] = L' at *
          have HL' := Lib.hid HL
          clear HL
          go_wp2_with fail
          refine (crash_any _ b d5 _ [] _ a5.dk (ints_nil _)).mono ?_
          rintro e w6 ⟨c, rfl, pc, d6, o6⟩
          have l6 := l5.crashed []
          go_wp2_with fail
          refine (opened_any _ c _ _ _ d6 (by show 0 < 100000; omega) rfl l6.holds).mono ?_
          rintro e w7 ⟨jc, ao7, cap7, fp7, rfl, p7, p7', j7, r7, f7, d7, f7', n7, o7⟩
          have o57 := ((After.nob w5).grow (b := w6) (Nat.le_refl _)).only o6 o7
          have a7 := a5.quiet o57
          have OT := Lib.hid (o0.trans a7.on (fun _ _ h => h))
          clear d6 o6 j7 d7 f7' o7 p7 p7' pc l6 r7 n7 f7 l5 a5 o57
          have JH := a7.jh
          clear a7
          have t2 : ((L'.length : Int) == (m : Int) + 1) = true := by rw [HL'.out]; simp
          have HM := Lib.hid (show Calls Try.prog 45 #[.pointer (some ⟨jb, 0, none⟩)] w7 fun e w' => e = .returned (.int .i64 (L'.length : Nat)) ∧ w7 = w' from many_any jb b _ _ JH)
          clear JH c6 m6 c5
          go_wp2_with fail
          (with_reducible refine HM.out.mono ?_)
          rintro e w' ⟨rfl, rfl⟩
          go_wp2_with fail
          go_ret
          exact ⟨by simp, OT.out⟩
        case neg =>
          go_wp2_with fail
          refine (append_full jb b (jsOf L) r _ g5.jh rfl (by have := G9.out; show bytesOf L ≤ _; rw [← G1.out]; omega) (by rw [hRL.out]; omega) (by have := HF.out; show _ < bytesOf L + _ + _; rw [← G1.out, hRL.out]; omega)).mono ?_
          rintro e w5 ⟨rfl, o5⟩
          have a5 := g5.quiet o5
          clear g5 g10
          have HL' := G2
          have l5 := g6
          go_wp2_with fail
          refine (crash_any _ b d _ [] _ a5.dk (ints_nil _)).mono ?_
          rintro e w6 ⟨c, rfl, pc, d6, o6⟩
          have l6 := l5.crashed []
          go_wp2_with fail
          refine (opened_any _ c _ _ _ d6 (by show 0 < 100000; omega) rfl l6.holds).mono ?_
          rintro e w7 ⟨jc, ao7, cap7, fp7, rfl, p7, p7', j7, r7, f7, d7, f7', n7, o7⟩
          have o57 := ((After.nob w5).grow (b := w6) (Nat.le_refl _)).only o6 o7
          have a7 := a5.quiet o57
          have OT := Lib.hid (o0.trans a7.on (fun _ _ h => h))
          clear d6 o6 j7 d7 f7' o7 p7 p7' pc l6 r7 n7 f7 l5 a5 o57
          have JH := a7.jh
          clear a7
          have t2 : ((L.length : Int) == (m : Int)) = true := by rw [HL'.out]; simp
          have HM := Lib.hid (show Calls Try.prog 45 #[.pointer (some ⟨jb, 0, none⟩)] w7 fun e w' => e = .returned (.int .i64 (L.length : Nat)) ∧ w7 = w' from many_any jb b _ _ JH)
          clear JH c6 m6
          go_wp2_with fail
          (with_reducible refine HM.out.mono ?_)
          rintro e w' ⟨rfl, rfl⟩
          go_wp2_with fail
          go_ret
          exact ⟨by simp, OT.out⟩

end Go.Proofs.Ytdpebdghhgojaaa
