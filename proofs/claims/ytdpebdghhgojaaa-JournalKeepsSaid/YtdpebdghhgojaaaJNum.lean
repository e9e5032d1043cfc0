/- The walks of number and value: how the journal writes numbers as bytes. -/
import Derived.Test.YtdpebdghhgojaaaJLaw
namespace Go.Proofs.Ytdpebdghhgojaaa
open Go.RowKit

theorem numB_succ : ∀ (k n : Nat), numB n (k + 1) = UInt8.ofNat (n / 256 ^ k) :: numB n k
  | 0, n => by simp [numB]
  | k + 1, n => by
    show numB (n / 256) (k + 1) ++ [UInt8.ofNat n] = UInt8.ofNat (n / 256 ^ (k + 1)) :: (numB (n / 256) k ++ [UInt8.ofNat n])
    rw [numB_succ k (n / 256), List.cons_append, Nat.div_div_eq_div_mul, Nat.pow_succ, Nat.mul_comm 256]

theorem num_set (n width k : Nat) (h : k < width) : (List.replicate (width - k) 0 ++ numB n k).set (width - 1 - k) (UInt8.ofNat (n / 256 ^ k)) = List.replicate (width - (k + 1)) 0 ++ numB n (k + 1) := by
  rw [List.set_append, if_pos (by simp; omega), numB_succ, show width - k = (width - (k + 1)) + 1 by omega, List.replicate_succ', List.set_append, if_neg (by simp; omega), List.length_replicate, show width - 1 - k - (width - (k + 1)) = 0 by omega, List.set_cons_zero, List.append_assoc]
  rfl

theorem num_byte (n k : Nat) : ((n : Int) / 2 ^ (8 * k) % 256) = ((UInt8.ofNat (n / 256 ^ k)).toNat : Int) := by
  have h : (2 : Nat) ^ (8 * k) = 256 ^ k := by rw [Nat.pow_mul]
  have h2 : ((2 : Int) ^ (8 * k)) = ((256 ^ k : Nat) : Int) := by rw [← h]; simp
  rw [h2]
  simp

theorem or_byte (m b : Nat) (hm : m * 256 < 18446744073709551616) (hb : b < 256) : bits .or .i64 (wrap64 (wrap64 (m : Int) * 256)) (b : Int) = wrap64 ((m * 256 + b : Nat) : Int) := by
  have e1 : wrap64 (wrap64 (m : Int) * 256) = wrap64 ((m * 256 : Nat) : Int) := by unfold wrap64; omega
  have key : ∀ x : Nat, x < 18446744073709551616 → (BitVec.ofInt 64 (wrap64 (x : Int))).toNat = x := by
    intro x hx
    rw [BitVec.toNat_ofInt]
    unfold wrap64
    omega
  rw [e1]
  show IntKind.i64.wrap ((BitVec.ofInt 64 (wrap64 ((m * 256 : Nat) : Int)) ||| BitVec.ofInt 64 (b : Int)).toNat : Int) = _
  have kb : (BitVec.ofInt 64 (b : Int)).toNat = b := by rw [BitVec.toNat_ofInt]; omega
  rw [BitVec.toNat_or, key _ hm, kb]
  have h := Nat.shiftLeft_add_eq_or_of_lt (i := 8) (b := b) (by omega) m
  rw [Nat.shiftLeft_eq] at h
  rw [← h, IntWalk.i64_left, show (2 : Nat) ^ 8 = 256 by decide]

def NumRel (n width g : Nat) (w : World) (iv : Value) (wr : World) : Prop :=
  ∃ k : Nat, iv = .int .i64 k ∧ k ≤ width ∧ Row wr (.slice (some ⟨g, 0, none⟩) width width) (List.replicate (width - k) 0 ++ numB n k) ∧ Only Nob w wr

theorem number_any (n width : Nat) (w : World) (hw : width = 4 ∨ width = 8) (_hn : n ≤ 1000000000) : Calls Try.prog 63 #[.int .i64 n, .int .i64 width] w (LongPost ⟨(numB n width).toArray⟩ w) := by
  have hw8 : width ≤ 8 := by omega
  have hw4 : 4 ≤ width := by omega
  have hz := run_zeros w width (by omega)
  have hrow := zeroWorld_row w width (by omega)
  have hzo := zeroWorld_only w width
  have hzs := zeroWorld_size w width
  clear hw
  go_enter Try.func63, Try.ntmps63
  go_wp2_with fail
  go_loopw [6, 11] (fun _ iv wr => NumRel n width w.heap.size w iv wr) (fun _ iv _ => width - (intOf iv).toNat)
  case atStart => exact ⟨0, rfl, Nat.zero_le _, by simpa [numB] using hrow, hzo⟩
  case round =>
    obtain ⟨k, rfl, g1, g2, g3⟩ := hrel
    clear hz hrow hzo hzs
    by_cases hk : k < width
    · have hcell := g2.cells (g := w.heap.size) rfl (width - 1 - k) (.int .u8 0) (by rw [cellsB_append, List.getElem?_append_left (by simp; omega), cellsB_replicate, List.getElem?_replicate, if_pos (by omega)])
      rw [addr_add0] at hcell
      have hfr : wr.frozen? ⟨w.heap.size, width - 1 - k, none⟩ = false := by
        rcases g2.2 with ⟨h, _⟩ | ⟨g, cap, cur, hv, _, hg, _⟩
        · simp at h
        · simp only [Value.slice.injEq, Option.some.injEq, Addr.mk.injEq] at hv
          rw [hv.1.1]
          simp [World.frozen?, hg]
      have hval := Lib.hid (num_byte n k)
      go_wp2
      go_roundw
      case rel =>
        rw [hval.out]
        have := g2.set (width - 1 - k) (UInt8.ofNat (n / 256 ^ k))
        rw [num_set n width k hk] at this
        exact ⟨k + 1, by simp, hk, this, g3.trans (Only.setCell (S := Is w.heap.size) wr ⟨w.heap.size, width - 1 - k, none⟩ _ rfl) (fun i hi hx => by have : i = w.heap.size := hx; omega)⟩
      case measure => simp [intOf]; omega
    · have hkn : k = width := by omega
      subst hkn
      rw [Nat.sub_self, List.replicate_zero, List.nil_append] at g2
      have hst := run_str_of wr w.heap.size k (numB n k) (by have := g2.src (by simp); simpa using this)
      rw [numB_length] at hst
      go_wp2
      go_ret
      exact ⟨by simp, g3⟩

theorem value_any (s : ByteArray) (width : Nat) (w : World) (hw : width ≤ 8) : Calls Try.prog 58 #[.string s, .int .i64 width] w fun e w' => e = .returned (.int .i64 (wrap64 (valN s.data.toList width))) ∧ w = w' := by
  go_enter Try.func58, Try.ntmps58
  go_wp2_with fail
  go_loop [5, 6, 8] (fun nv _ iv => ∃ k : Nat, iv = .int .i64 k ∧ k ≤ width ∧ nv = .int .i64 (wrap64 (valN s.data.toList k))) (fun _ _ iv => width - (intOf iv).toNat)
  case atStart => exact ⟨0, rfl, Nat.zero_le _, by simp [valN, wrap64]⟩
  case round =>
    obtain ⟨k, rfl, g1, rfl⟩ := hrel
    by_cases hk : k < width
    · by_cases hks : k < s.size
      · have hm := valN_lt s.data.toList k
        have hm2 : valN s.data.toList k * 256 < 18446744073709551616 := by
          have : (256 : Nat) ^ k ≤ 256 ^ 7 := Nat.pow_le_pow_right (by omega) (by omega)
          omega
        have hb := s[k].toNat_lt
        have hsum := or_byte _ s[k].toNat hm2 (by omega)
        have hstep : valN s.data.toList (k + 1) = valN s.data.toList k * 256 + s[k].toNat := by
          simp only [valN]
          have : s.data.toList.getD k 0 = s[k] := by simp [List.getD_eq_getElem?_getD, hks]; rfl
          rw [this]
        rw [← hstep] at hsum
        have HS := Lib.hid hsum
        clear hstep hm hm2 hsum
        go_wp2
        go_round
        case rel => exact ⟨k + 1, by simp, by omega, by rw [HS.out]⟩
        case measure => simp [intOf]; omega
      · have hstep : wrap64 (wrap64 (valN s.data.toList k) * 256) = wrap64 (valN s.data.toList (k + 1)) := by
          simp only [valN]
          have : s.data.toList.getD k 0 = 0 := by
            rw [List.getD_eq_getElem?_getD, List.getElem?_eq_none (by simp; omega)]; rfl
          rw [this]
          unfold wrap64
          simp
          omega
        have HS := Lib.hid hstep
        clear hstep
        go_wp2
        go_round
        case rel => exact ⟨k + 1, by simp, by omega, by rw [HS.out]⟩
        case measure => simp [intOf]; omega
    · have : k = width := by omega
      subst this
      go_wp2
      go_ret
      exact ⟨rfl, rfl⟩
end Go.Proofs.Ytdpebdghhgojaaa
