/- The reference's reader: its class of a letter, its count (where no brace stands). -/
import Derived.Test.YtddjbfmohibgbaaDoorParse
namespace Go.Proofs.YtddjbfmohibgbaaDoor
open Go.RowKit

theorem idxF_drop (c : UInt8) (k : Nat) (h : k < 7) : idxF (names.drop k) c k = if names[k]'h = c then (k : Int) else idxF (names.drop (k + 1)) c ((k + 1 : Nat) : Int) := by
  have e : names.drop k = names[k]'h :: names.drop (k + 1) := List.drop_eq_getElem_cons h
  rw [e, idxF]
  rfl

set_option maxHeartbeats 1000000 in
theorem rclassn_any (c : UInt8) (w : World) : Calls Tryd.prog 116 #[.int .u8 c.toNat] w fun e w' => e = .returned (.int .i64 (nameN c)) ∧ w = w' := by
  have ix := fun k h w => index_at names k h w
  have IXh := Lib.hid ix
  clear ix
  go_enter Tryd.func116, Tryd.ntmps116
  go_wp2_with fail
  go_loopw [3] (fun i wr => ∃ k : Nat, k ≤ 7 ∧ i = .int .i64 (k : Int) ∧ idxF (names.drop k) c k = idxF names c 0 ∧ w = wr) (fun i _ => 7 - (intOf i).toNat)
  case atStart => exact ⟨0, by omega, rfl, rfl, rfl⟩
  case round =>
    obtain ⟨k, hk, rfl, hx, rfl⟩ := hrel
    by_cases hlt : k < 7
    · have kk : (k : Int) < 7 := by omega
      have ix : ∀ w, (Instr.index 9 (.string ⟨#[100, 117, 108, 97, 115, 111, 46]⟩) (.int .i64 (k : Int))).run Tryd.prog w = .ok (.int .u8 (names[k]'hlt).toNat) w := IXh.out k hlt
      rw [idxF_drop c k hlt] at hx
      have HX := Lib.hid hx
      have hn8 := (names[k]'hlt).toNat_lt
      have hc8 := c.toNat_lt
      have hEq : (names[k]'hlt = c) ↔ (names[k]'hlt).toNat = c.toNat := UInt8.toNat_inj.symm
      have HQ := Lib.hid hEq
      clear hx hEq
      generalize names[k]'hlt = y at *
      generalize hyn : y.toNat = yN at *
      generalize hcn : c.toNat = cN at *
      clear hyn hcn IXh
      by_cases h : y = c
      · have h' := HQ.out.1 h
        rw [if_pos h] at HX
        subst h'
        clear h HQ
        go_wp2_with fail
        go_ret
        refine ⟨ret_int ?_, rfl⟩
        unfold nameN
        rw [← HX.out]
      · have h' : ¬ yN = cN := fun e => h (HQ.out.2 e)
        rw [if_neg h] at HX
        have h'' : ¬ (yN : Int) = (cN : Int) := by omega
        clear h HQ h'
        go_wp2_with fail
        go_roundw
        case rel => exact ⟨k + 1, by omega, rfl, HX.out, trivial⟩
        case measure => simp [intOf]; omega
    · obtain rfl : k = 7 := by omega
      go_wp2
      go_ret
      refine ⟨ret_int ?_, rfl⟩
      unfold nameN
      rw [← hx]
      rfl

/-- The reference's reader in the block g, no error seen. -/
def RRd (w : World) (g : Nat) (s : List UInt8) (k : Nat) : Prop := w.heap[g]? = some (.cells #[.string ⟨s.toArray⟩, .int .i64 (k : Int), .int .i64 0, .int .i64 0] 142 (0, 0))
theorem RRd.cells {w : World} {g : Nat} {s : List UInt8} {k : Nat} (h : RRd w g s k) : w.cell? ⟨g, 0, none⟩ = some (.string ⟨s.toArray⟩) ∧ w.cell? ⟨g, 1, none⟩ = some (.int .i64 (k : Int)) ∧ w.cell? ⟨g, 3, none⟩ = some (.int .i64 0) ∧ w.frozen? ⟨g, 1, none⟩ = false := by
  unfold RRd at h
  simp [World.cell?, World.frozen?, h]
theorem RRd.lt {w : World} {g : Nat} {s : List UInt8} {k : Nat} (h : RRd w g s k) : g < w.heap.size := lt_of_heap h
theorem RRd.other {S : Nat → Prop} {w w' : World} {g : Nat} {s : List UInt8} {k : Nat} (h : RRd w g s k) (ho : Only S w w') (hn : ¬ S g) : RRd w' g s k := (ho.block g h.lt hn).trans h
theorem RRd.set {w : World} {g : Nat} {s : List UInt8} {k : Nat} (h : RRd w g s k) (j : Nat) : RRd (w.setCell ⟨g, 1, none⟩ (.int .i64 (j : Int))) g s j := heap_setCell_same w g 1 _ 142 _ h

/-- A count where no brace stands. -/
theorem rcount_any (g : Nat) (s : List UInt8) (k l m k2 : Nat) (w : World) (hs : s.length ≤ 1000) (hr : RRd w g s k) (hb : (peekL s k).toNat ≠ 123) (hc : cntL s k = .ok ((l, m), k2)) :
    Calls Tryd.prog 118 #[.pointer (some ⟨g, 0, none⟩)] w fun e w' => e = .returned (.tuple #[.int .i64 (l : Int), .int .i64 (m : Int)]) ∧ RRd w' g s k2 ∧ Only (Is g) w w' := by
  obtain ⟨c0, c1, -, cf⟩ := hr.cells
  have HR := Lib.hid hr
  have HS := Lib.hid (hr.set (k + 1))
  clear hr
  have HC := Lib.hid hc
  clear hc
  by_cases hlt : k < s.length
  · have kk : ¬ (k : Int) ≥ (s.length : Int) := by omega
    have ix : ∀ w, (Instr.index 9 (.string ⟨s.toArray⟩) (.int .i64 (k : Int))).run Tryd.prog w = .ok (.int .u8 (peekL s k).toNat) w := by
      rw [byte_at hlt]; exact fun w => index_at s k hlt w
    unfold cntL at HC
    have hn8 := (peekL s k).toNat_lt
    generalize (peekL s k).toNat = cN at *
    go_enter Tryd.func118, Tryd.ntmps118
    go_wp2_with fail
    go_region_held3 (fun w' => w'.cell? ⟨g, 0, none⟩ = some (.string ⟨s.toArray⟩) ∧ w'.cell? ⟨g, 1, none⟩ = some (.int .i64 (k : Int))) (exact ⟨c0, c1⟩) (fail)
    go_wp2_with fail
    go_region_held3 (fun w' => w'.cell? ⟨g, 0, none⟩ = some (.string ⟨s.toArray⟩) ∧ w'.cell? ⟨g, 1, none⟩ = some (.int .i64 (k : Int))) (exact ⟨c0, c1⟩) (fail)
    have hd2 : Only Nob w w.drew.drew := (Only.drew _ _).nob (Only.drew _ _)
    have HD := Lib.hid hd2
    clear hd2 kk ix
    by_cases h1 : cN = 43
    · subst h1
      rw [if_pos rfl] at HC
      obtain ⟨⟨rfl, rfl⟩, rfl⟩ := (by simpa using HC.out : (1 = l ∧ 200 = m) ∧ k + 1 = k2)
      go_wp2
      go_ret2
      refine ⟨rfl, ?_, ?_⟩
      · exact HS.out.other ((Only.drew Nob _).nob (Only.drew _ _)) (fun h => h)
      · exact ((Only.refl (Is g) w).is_set 1 _).is_nob ((Only.drew _ _).nob (Only.drew _ _))
    have h1' : ¬ (cN : Int) = 43 := by omega
    rw [if_neg h1] at HC
    by_cases h2 : cN = 42
    · subst h2
      rw [if_pos rfl] at HC
      obtain ⟨⟨rfl, rfl⟩, rfl⟩ := (by simpa using HC.out : (0 = l ∧ 200 = m) ∧ k + 1 = k2)
      go_wp2
      go_ret2
      refine ⟨rfl, ?_, ?_⟩
      · exact HS.out.other ((Only.drew Nob _).nob (Only.drew _ _)) (fun h => h)
      · exact ((Only.refl (Is g) w).is_set 1 _).is_nob ((Only.drew _ _).nob (Only.drew _ _))
    have h2' : ¬ (cN : Int) = 42 := by omega
    rw [if_neg h2, if_neg hb] at HC
    have hb' : ¬ (cN : Int) = 123 := by omega
    obtain ⟨⟨rfl, rfl⟩, rfl⟩ := (by simpa using HC.out : (1 = l ∧ 1 = m) ∧ k = k2)
    go_wp2
    go_ret2
    exact ⟨rfl, HR.out.other HD.out (fun h => h), HD.out.mono (fun _ _ h => h.elim)⟩
  · have kk : (k : Int) ≥ (s.length : Int) := by omega
    rw [cnt_one (by rw [peekL_end (by omega)]; decide) (by rw [peekL_end (by omega)]; decide) hb] at HC
    obtain ⟨⟨rfl, rfl⟩, rfl⟩ := (by simpa using HC.out : (1 = l ∧ 1 = m) ∧ k = k2)
    go_enter Tryd.func118, Tryd.ntmps118
    go_wp2_with fail
    go_region_held3 (fun w' => w'.cell? ⟨g, 0, none⟩ = some (.string ⟨s.toArray⟩) ∧ w'.cell? ⟨g, 1, none⟩ = some (.int .i64 (k : Int))) (exact ⟨c0, c1⟩) (fail)
    go_wp2
    go_ret2
    exact ⟨rfl, HR.out.other (Only.drew Nob _) (fun h => h), Only.drew _ _⟩

end Go.Proofs.YtddjbfmohibgbaaDoor
