/- The walk of the reference's Put. -/
import Derived.Test.YtdpebdghhgojaaaWrite
import Derived.Deep.OwnRows
namespace Go.Proofs.Ytdpebdghhgojaaa
open Go.RowKit

/-- The world behind make([]byte, n). -/
def zeroWorld (w : World) (n : Nat) : World := w.alloc (.cells (List.replicate n (.int .u8 0)).toArray 5)
theorem zeroWorld_only (w : World) (n : Nat) : Only Nob w (zeroWorld w n) := Only.alloc _ _ _
theorem zeroWorld_size (w : World) (n : Nat) : (zeroWorld w n).heap.size = w.heap.size + 1 := by simp [zeroWorld]
theorem zeroWorld_row (w : World) (n : Nat) (hn : n ≤ 140737488355328) : Row (zeroWorld w n) (.slice (some ⟨w.heap.size, 0, none⟩) n n) (List.replicate n 0) := by
  refine ⟨by simp, .inr ⟨w.heap.size, n, _, by simp, Nat.zero_le _, heap_alloc_new w _, by simp, by unfold maxLen; omega, by simp, ?_⟩⟩
  rw [cellsB_replicate]
  simp
theorem run_zeros (w : World) (n : Nat) (hn : n ≤ 140737488355328) : (Instr.makeSlice 56 (.int .i64 n) (.int .i64 n)).run Try.prog w = .ok (.slice (some ⟨w.heap.size, 0, none⟩) n n) (zeroWorld w n) := by
  have h := run_make_row' (P := Try.prog) 56 5 (.int .u8 0) 1 Try.underlying56 Try.info5 rfl .i64 .i64 n (by omega) (by omega) w
  have e : madeCells #[.int .u8 0] n = (List.replicate n (.int .u8 0)).toArray := by
    apply Array.ext
    · simp [madeCells]
    · intro i h1 h2
      simp [madeCells, Nat.mod_one]
  rw [h, e]
  rfl

theorem run_str_of (w : World) (g cap : Nat) (l : List UInt8) (h : Src w (.slice (some ⟨g, 0, none⟩) l.length cap) l) : (convert 56 9 (.slice (some ⟨g, 0, none⟩) l.length cap)).run Try.prog w = .ok (.string ⟨l.toArray⟩) w :=
  run_convert_bytes_back (P := Try.prog) w 56 9 5 ⟨g, 0, none⟩ cap l Try.underlying56 Try.underlying5 Try.underlying9 (fun j hj => h.cells.2 j _ (by simp [cellsB, hj]))

theorem run_zstr (w : World) (n : Nat) (hn : n ≤ 140737488355328) : (convert 56 9 (.slice (some ⟨w.heap.size, 0, none⟩) n n)).run Try.prog (zeroWorld w n) = .ok (.string ⟨(List.replicate n (0 : UInt8)).toArray⟩) (zeroWorld w n) := by
  have h := run_str_of (zeroWorld w n) w.heap.size n (List.replicate n 0) (by
    have := (zeroWorld_row w n hn).src (by simp)
    simpa using this)
  simpa using h

def PadRel (c : ByteArray) (off : Nat) (w : World) (sv : Value) (wr : World) : Prop :=
  ∃ c' : ByteArray, sv = .string c' ∧ c'.data.toList = c.data.toList ++ List.replicate (c'.size - c.size) 0 ∧ c.size ≤ c'.size ∧ c'.size ≤ max c.size off ∧ Only Nob w wr

def RPutPost (l : List UInt8) (w : World) (e : Ending) (w' : World) : Prop := e = .returned (.string ⟨l.toArray⟩) ∧ Only Nob w w'

theorem str_eq {s t : ByteArray} (h : s.data.toList = t.data.toList) : s = t := by
  cases s; cases t
  simp at h
  rw [h]

theorem put_ref (c s : List UInt8) (off k : Nat) (h1 : off ≤ c.length + k) (h2 : c.length + k ≤ max c.length off) :
    (c ++ List.replicate k 0).take off ++ (s ++ (c ++ List.replicate k 0).drop (off + s.length)) = put c off s := by
  unfold put
  by_cases h : off ≤ c.length
  · obtain rfl : k = 0 := by omega
    simp only [List.replicate_zero, List.append_nil]
    rw [List.take_append_of_le_length h, List.drop_append]
    by_cases h3 : off + s.length ≤ c.length
    · rw [show off + s.length - c.length = 0 by omega]; simp
    · rw [List.drop_eq_nil_of_le (by omega : c.length ≤ off + s.length)]; simp
  · obtain rfl : k = off - c.length := by omega
    have e1 : (c ++ List.replicate (off - c.length) (0 : UInt8)).take off = c ++ List.replicate (off - c.length) 0 := List.take_of_length_le (by simp; omega)
    have e2 : (c ++ List.replicate (off + s.length - c.length) (0 : UInt8)).take off = c ++ List.replicate (off - c.length) 0 := by
      rw [List.take_append, List.take_of_length_le (by omega : c.length ≤ off), List.take_replicate, Nat.min_eq_left (by omega)]
    rw [e1, e2, List.drop_eq_nil_of_le (by simp; omega), List.drop_eq_nil_of_le (by simp; omega)]

theorem put_ref2 (c s : List UInt8) (off k : Nat) (h1 : off ≤ c.length + k) (h2 : c.length + k ≤ max c.length off) (h3 : c.length + k ≤ off + s.length) :
    (c ++ List.replicate k 0).take off ++ s = put c off s := by
  rw [← put_ref c s off k h1 h2, List.drop_eq_nil_of_le (by simp; omega), List.append_nil]

set_option maxRecDepth 100000 in
theorem rput_any (c s : ByteArray) (off : Nat) (w : World) (h1 : off ≤ 16777216) (h2 : s.size ≤ 16777216) (h3 : c.size ≤ 16777216) :
    Calls Try.prog 53 #[.string c, .int .i64 off, .string s] w (RPutPost (put c.data.toList off s.data.toList) w) := by
  go_enter Try.func53, Try.ntmps53
  go_wp2_with fail
  go_loopw [0] (fun sv wr => PadRel c off w sv wr) (fun sv _ => off - strLen sv)
  case atStart => exact ⟨c, rfl, by simp, Nat.le_refl _, by omega, Only.refl _ _⟩
  case round =>
    obtain ⟨c', rfl, g1, g2, g3, g4⟩ := hrel
    by_cases hlt : c'.size < off
    · obtain ⟨m, hm⟩ : ∃ m, m = off - c'.size := ⟨_, rfl⟩
      have hmZ : (off : Int) - c'.size = m := by omega
      have hz := run_zeros wr m (by omega)
      have hs := run_zstr wr m (by omega)
      have ho := Lib.hid (zeroWorld_only wr m)
      have HM := Lib.hid hm
      have G1 := Lib.hid g1
      have hmp : 0 < m := by omega
      clear hm g1
      go_wp2
      go_roundw
      case rel =>
        have hm := HM.out
        refine ⟨_, rfl, ?_, ?_, ?_, g4.trans ho.out (fun _ _ h => h)⟩
        · have e : (c' ++ (⟨Array.replicate m 0⟩ : ByteArray)).data.toList = c'.data.toList ++ List.replicate m 0 := by simp
          have e2 : (c' ++ (⟨Array.replicate m 0⟩ : ByteArray)).size = c'.size + m := by
            rw [ByteArray.size_append, show (⟨Array.replicate m 0⟩ : ByteArray).size = m from by simp [← ByteArray.size_data]]
          rw [e, e2, G1.out, List.append_assoc, List.replicate_append_replicate]
          congr 2
          omega
        · rw [ByteArray.size_append]; omega
        · rw [ByteArray.size_append, show (⟨Array.replicate m 0⟩ : ByteArray).size = m from by simp [← ByteArray.size_data]]; omega
      case measure =>
        have hm := HM.out
        simp only [strLen]
        rw [ByteArray.size_append, show (⟨Array.replicate m 0⟩ : ByteArray).size = m from by simp [← ByteArray.size_data]]; omega
    · have G1 := Lib.hid g1
      have hcl : c.data.toList.length = c.size := by simp
      have hsl : s.data.toList.length = s.size := by simp
      clear g1
      by_cases hge : c'.size ≤ off + s.size
      · go_wp2
        go_ret
        refine ⟨?_, g4⟩
        have e : (c'.extract 0 off ++ s) = ⟨(put c.data.toList off s.data.toList).toArray⟩ := by
          apply str_eq
          rw [ByteArray.data_append, Array.toList_append, toList_extract, G1.out]
          have := put_ref2 c.data.toList s.data.toList off (c'.size - c.size) (by omega) (by omega) (by omega)
          simpa using this
        exact congrArg (fun x => Ending.returned (.string x)) e
      · go_wp2_with fail
        go_region
        all_goals
          go_wp2
          go_ret
          refine ⟨?_, g4.trans (Only.drew Nob wr) (fun _ _ h => h)⟩
          have e : (c'.extract 0 off ++ s ++ c'.extract (off + s.size) c'.size) = ⟨(put c.data.toList off s.data.toList).toArray⟩ := by
            apply str_eq
            rw [ByteArray.data_append, Array.toList_append, ByteArray.data_append, Array.toList_append, toList_extract, toList_extract, G1.out]
            have := put_ref c.data.toList s.data.toList off (c'.size - c.size) (by omega) (by omega)
            have e3 : ((c.data.toList ++ List.replicate (c'.size - c.size) (0 : UInt8)).drop (off + s.size)).take (c'.size - (off + s.size)) = (c.data.toList ++ List.replicate (c'.size - c.size) (0 : UInt8)).drop (off + s.size) :=
              List.take_of_length_le (by rw [List.length_drop, List.length_append, hcl, List.length_replicate]; omega)
            rw [e3]
            rw [hsl] at this
            simpa using this
          exact congrArg (fun x => Ending.returned (.string x)) e
end Go.Proofs.Ytdpebdghhgojaaa
