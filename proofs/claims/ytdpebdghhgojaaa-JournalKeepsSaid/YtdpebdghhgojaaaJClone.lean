/- The walk of strings.Clone: the same string; nothing that lay has changed. -/
import Derived.Test.YtdpebdghhgojaaaJNum
import Derived.Lib.BufferWrite
namespace Go.Proofs.Ytdpebdghhgojaaa
open Go.RowKit

theorem only_freeze {S : Nat → Prop} (w : World) (a : Addr) (n : Nat) (h : S a.block) : Only S w (w.freeze a n) := by
  unfold World.freeze
  split
  · exact Only.refl S w
  · exact ⟨rfl, rfl, rfl, by simp, fun k hk hn => by
      simp only [Array.getElem?_modify]
      rw [if_neg (fun e => hn (by rw [← e]; exact h))]⟩

theorem sclone_any (s : ByteArray) (w : World) (hs : s.size ≤ 140737488355328) : Calls Try.prog 67 #[.string s] w fun e w' => e = .returned (.string s) ∧ Only Nob w w' := by
  by_cases h0 : s.size = 0
  · have hl : s.data.toList = [] := List.eq_nil_of_length_eq_zero (by simpa using h0)
    have he : s = ⟨#[]⟩ := by
      cases s with
      | mk d => simp at hl; rw [hl]
    subst he
    go_enter Try.func67, Try.ntmps67
    go_wp2
    go_ret
    exact ⟨rfl, Only.refl _ _⟩
  · have h63 : s.data.toList.length ≤ 9223372036854775807 := by
      have e : s.data.toList.length = s.size := by simp
      omega
    have hz := run_zeros w s.size hs
    have hzo := zeroWorld_only w s.size
    have hg : (zeroWorld w s.size).heap[w.heap.size]? = some (.cells (List.replicate s.size (.int .u8 0)).toArray 5 (0, 0)) := heap_alloc_new w _
    have hcp := fun ty => Lib.run_copy_row_string (P := Try.prog) (zeroWorld w s.size) 56 9 ty 5 w.heap.size 0 s.size s.size s _ 5 Try.underlying56 Try.size5 hg (Nat.le_refl _) (by simp)
    have hrow := setRow_heap (zeroWorld w s.size) w.heap.size _ ((List.take 0 (List.replicate s.size (Value.int .u8 0)).toArray.toList ++ Lib.byteCells s.data.toList ++ List.drop (0 + s.size) (List.replicate s.size (Value.int .u8 0)).toArray.toList).toArray) 5 _ hg
    have hO : Only Nob w ((zeroWorld w s.size).setRow w.heap.size ((List.take 0 (List.replicate s.size (Value.int .u8 0)).toArray.toList ++ Lib.byteCells s.data.toList ++ List.drop (0 + s.size) (List.replicate s.size (Value.int .u8 0)).toArray.toList).toArray)) :=
      hzo.trans (Only.setRow (S := Is w.heap.size) _ _ _ rfl) (fun i hi hx => by have : i = w.heap.size := hx; omega)
    generalize (zeroWorld w s.size).setRow w.heap.size ((List.take 0 (List.replicate s.size (Value.int .u8 0)).toArray.toList ++ Lib.byteCells s.data.toList ++ List.drop (0 + s.size) (List.replicate s.size (Value.int .u8 0)).toArray.toList).toArray) = w2 at *
    have hus := fun ty => Lib.run_unsafeString_row (P := Try.prog) (w := w2) 106 3 ty 5 Try.underlying106 (by kernel_rfl) w.heap.size s.size (by simp [World.shape?, hrow, Lib.byteCells]) s.data.toList (by intro h; apply h0; simpa using congrArg List.length h) (by simp) h63 (by
      intro j x hx
      rw [addr_add0, cell_of_row w2 w.heap.size j _ 5 _ hrow]
      simp [Lib.byteCells] at hx ⊢
      exact ⟨x, hx, rfl⟩)
    have hfz := only_freeze (S := Is w.heap.size) w2 ⟨w.heap.size, 0, none⟩ s.data.toList.length rfl
    have hb : ((s.size : Int) == 0) = false := by rw [beq_eq_false_iff_ne]; omega
    have hl : s.data.toList.length = s.size := by simp
    rw [hl] at hus hfz
    have hO1 : Only Nob w (w2.freeze ⟨w.heap.size, 0, none⟩ s.size) := hO.trans hfz (fun i hi hx => by have h1 : i = w.heap.size := hx; omega)
    have hO2 := Lib.hid hO1
    clear hO1
    clear hO hfz hzo hg hl hrow h63
    go_enter Try.func67, Try.ntmps67
    go_wp2
    go_ret
    exact ⟨by simp, hO2.out⟩

theorem clone_any (s : ByteArray) (w : World) (hs : s.size ≤ 140737488355328) : Calls Try.prog 60 #[.string s] w fun e w' => e = .returned (.string s) ∧ Only Nob w w' := by
  go_enter Try.func60, Try.ntmps60
  go_wp2_with fail
  refine (sclone_any s _ hs).mono ?_
  rintro e w1 ⟨rfl, o1⟩
  go_wp2
  go_ret
  exact ⟨rfl, o1⟩
end Go.Proofs.Ytdpebdghhgojaaa
