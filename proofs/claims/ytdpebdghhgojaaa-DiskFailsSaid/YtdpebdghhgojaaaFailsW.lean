/- The walk of DiskFails. -/
import Derived.Test.YtdpebdghhgojaaaOwn
namespace Go.Proofs.Ytdpebdghhgojaaa
open Go.RowKit

/-- A disk whose power fails after m calls, behind k calls that were tried. -/
structure FOk (d : DS) (m k : Nat) : Prop where
  fail : d.fail = true
  calls : d.calls = min k m
  left : d.left = (m : Int) - (min k m : Nat)
  now : d.now.length ≤ min k m

theorem FOk.off {d : DS} {m k : Nat} (h : FOk d m k) : (d.off = true) ↔ m ≤ k := by
  have h1 := h.left
  simp [DS.off, h.fail, h1]
  omega

theorem FOk.sync {d : DS} {m k : Nat} (h : FOk d m k) : FOk d.sy m (k + 1) ∧ d.syE = if m ≤ k then 70 else 0 := by
  have ho := h.off
  have h2 := h.calls
  have h3 := h.left
  have h4 := h.now
  have h1 := h.fail
  by_cases hk : m ≤ k
  · have hoff := ho.2 hk
    unfold DS.sy DS.syE
    rw [if_pos hoff, if_pos hoff, if_pos hk]
    exact ⟨⟨h1, by omega, by omega, by omega⟩, rfl⟩
  · have hoff : ¬ d.off = true := fun h => hk (ho.1 h)
    unfold DS.sy DS.syE
    rw [if_neg hoff, if_neg hoff, if_neg hk]
    refine ⟨⟨h1, ?_, ?_, ?_⟩, rfl⟩
    · show d.calls + 1 = _; omega
    · show (if d.fail then d.left - 1 else d.left) = _; rw [if_pos h1]; omega
    · show d.now.length ≤ _; omega

theorem FOk.write {d : DS} {m k : Nat} (h : FOk d m k) (hk40 : k ≤ 40) : FOk (d.wr k [122]) m (k + 1) ∧ d.wrE k [122] = if m ≤ k then 70 else 0 := by
  have ho := h.off
  have h2 := h.calls
  have h3 := h.left
  have h4 := h.now
  have h1 := h.fail
  have hb : ¬ badW (k : Int) [122] := by unfold badW; simp; omega
  by_cases hk : m ≤ k
  · have hoff := ho.2 hk
    unfold DS.wr DS.wrE
    rw [if_pos (.inr hoff), if_neg hb, if_pos hoff, if_pos hk]
    exact ⟨⟨h1, by omega, by omega, by omega⟩, rfl⟩
  · have hoff : ¬ d.off = true := fun h => hk (ho.1 h)
    unfold DS.wr DS.wrE
    rw [if_neg (by rintro (h | h); exact hb h; exact hoff h), if_neg hb, if_neg hoff, if_neg hk]
    refine ⟨⟨h1, ?_, ?_, ?_⟩, rfl⟩
    · show d.calls + 1 = _; omega
    · show (if d.fail then d.left - 1 else d.left) = _; rw [if_pos h1]; omega
    · show (put d.now (k : Int).toNat [122]).length ≤ _
      rw [length_put]; simp; omega

def FailsRel (m x : Nat) (w : World) (iv : Value) (wr : World) : Prop :=
  ∃ (k : Nat) (d : DS) (fp : Nat → Prop), iv = .int .i64 k ∧ k ≤ 40 ∧ DiskAt wr fp x d ∧ Since w fp ∧ Only Nob w wr ∧ FOk d m k

set_option maxRecDepth 100000 in
set_option maxHeartbeats 4000000 in
theorem fails_walk (n : Nat) (bits : Nat) (more : Nat) (w : World) (hn : n < 256) (_hb : bits < 4294967296) (hm : more < 256) :
    Calls Try.prog 7 #[.int .u8 n, .int .u32 bits, .int .u8 more] w fun e w' => e = .returned (.bool true) ∧ Only Nob w w' := by
  obtain ⟨m, hm0⟩ : ∃ m : Nat, (n : Int) % 30 = m := ⟨n % 30, by omega⟩
  obtain ⟨p, hp0⟩ : ∃ p : Nat, (more : Int) % 5 = p := ⟨more % 5, by omega⟩
  have hm1 : m < 30 := by omega
  have hp1 : p < 5 := by omega
  go_enter Try.func7, Try.ntmps7
  go_wp2_with fail
  refine (sanity_any _).mono ?_
  rintro e w0 ⟨rfl, o0⟩
  go_wp2_with fail
  refine (new_any _).mono ?_
  rintro e w1 ⟨b, rfl, -, d1, o1, -⟩
  have n1 := (Since.nob w0).grow (b := w1) (Nat.le_refl _)
  go_wp2_with fail
  refine (fail_any _ b _ (m : Nat) _ d1 (by omega)).mono ?_
  rintro e w2 ⟨rfl, d2, o2⟩
  have q2 := n1.only o1 o2
  have n2 := n1.grow (b := w2) o1.size
  have HF : FOk (DS.new.failed (m : Nat)) m 0 := ⟨by simp [DS.failed]; omega, by simp [DS.failed, DS.new], by simp [DS.failed], by simp [DS.failed, DS.new]⟩
  have HR : FailsRel m b w0 (.int .i64 (0 : Nat)) w2 := ⟨0, _, _, rfl, by omega, d2, n2, q2, HF⟩
  clear d1 d2 o1 o2 n1 n2 q2 HF
  go_wp2_with fail
  go_loopw [10] (fun iv wr => FailsRel m b w0 iv wr) (fun iv _ => m + p + 1 - (intOf iv).toNat)
  case atStart => exact HR
  case round =>
    obtain ⟨k, d, fp, rfl, g1, g2, g3, g4, g5⟩ := hrel
    clear HR
    have hsum : IntKind.i64.wrap ((m : Nat) + (p : Nat)) = ((m + p : Nat) : Int) := by rw [IntWalk.i64_in _ (by omega)]; omega
    have hsum2 : IntKind.i64.wrap (((m + p : Nat) : Int) + 1) = ((m + p + 1 : Nat) : Int) := by rw [IntWalk.i64_in _ (by omega)]; omega
    by_cases hk : k < m + p + 1
    · by_cases hkm : m ≤ k
      all_goals
        have hsy := sync_all fp b d wr g2 (by have := g5.calls; omega)
        have hwr := write_all fp b k ⟨#[122]⟩ d wr g2 (by have := g5.calls; omega) (rng_small (by omega) (by omega)) (by decide)
        have HG := g5.sync
        have HW := g5.write (by omega)
        first | rw [if_pos hkm] at HG HW | rw [if_neg hkm] at HG HW
        have e2 : d.wrE k (⟨#[122]⟩ : ByteArray).data.toList = _ := HW.2
        rw [HG.2] at hsy
        rw [e2] at hwr
        have hsy := Lib.hid hsy
        have hwr := Lib.hid hwr
        have HG := Lib.hid HG.1
        have HW := Lib.hid HW.1
        clear e2
        go_wp2_with fail
        all_goals
          first
            | (go_at_call 34; refine hsy.out.mono ?_; rintro e w3 ⟨rfl, d3, o3⟩; have g6 := HG.out)
            | (go_at_call 33; refine hwr.out.mono ?_; rintro e w3 ⟨rfl, d3, o3⟩; have g6 := HW.out)
          have q3 := g3.only g4 o3
          have k3 := g3.grow (b := w3) g4.size
          go_wp2
          go_roundw
          case rel => exact ⟨k + 1, _, _, by simp, by omega, d3, k3, q3, g6⟩
          case measure => simp [intOf]; omega
    · have e1 : d.calls = m := by have := g5.calls; omega
      have e2 : d.now.length ≤ m := by have := g5.now; omega
      clear g5
      go_wp2_with fail
      refine (calls_any _ b d _ g2).mono ?_
      rintro e w' ⟨rfl, rfl⟩
      go_wp2_with fail
      refine (size_any _ b d _ g2).mono ?_
      rintro e w' ⟨rfl, rfl⟩
      go_wp2_with fail
      refine (fail_any _ b d (-1) _ g2 (by omega)).mono ?_
      rintro e w3 ⟨rfl, d3, o3⟩
      have q3 := g3.only g4 o3
      have k3 := g3.grow (b := w3) g4.size
      go_wp2_with fail
      refine (write_fine _ b 0 ⟨#[97, 103, 97, 105, 110]⟩ _ _ d3 (by show d.calls < 100000; omega) (by rfl) (by omega) (by decide)).mono ?_
      rintro e w4 ⟨rfl, d4, o4⟩
      have q4 := k3.only q3 o4
      have e3 : ((d.failed (-1)).written (0 : Int).toNat (⟨#[97, 103, 97, 105, 110]⟩ : ByteArray).data.toList).calls = m + 1 := by show d.calls + 1 = _; omega
      go_wp2_with fail
      refine (calls_any _ b _ _ d4).mono ?_
      rintro e w' ⟨rfl, rfl⟩
      rw [e3]
      go_wp2
      go_ret
      exact ⟨by simp, o0.trans q4 (fun _ _ h => h)⟩

theorem fails_walkI (n bits more : Int) (w : World) (hn : 0 ≤ n ∧ n ≤ 255) (hb : 0 ≤ bits ∧ bits ≤ 4294967295) (hm : 0 ≤ more ∧ more ≤ 255) :
    Calls Try.prog 7 #[.int .u8 n, .int .u32 bits, .int .u8 more] w fun e w' => e = .returned (.bool true) ∧ Only Nob w w' := by
  obtain ⟨a, rfl⟩ := Int.eq_ofNat_of_zero_le hn.1
  obtain ⟨b, rfl⟩ := Int.eq_ofNat_of_zero_le hb.1
  obtain ⟨c, rfl⟩ := Int.eq_ofNat_of_zero_le hm.1
  exact fails_walk a b c w (by omega) (by omega) (by omega)
end Go.Proofs.Ytdpebdghhgojaaa
