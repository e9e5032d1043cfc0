/- The walk of PatternClass. -/
import Derived.Test.YtddjbfmohibgbaaDoorSane
import Derived.Test.YtddjbfmohibgbaaDoorPieces
import Derived.Test.YtddjbfmohibgbaaDoorClsL
namespace Go.Proofs.YtddjbfmohibgbaaDoor
open Go.RowKit

theorem fair_single {c l m : Int} {t : List UInt8} (hc : Rng c) (hl : Rng l) (hm : Rng m) (ht : t.length ≤ 1000) : Fair [⟨c, l, m, t⟩] := ⟨by simp, fun x hx => by
  obtain rfl := List.mem_singleton.1 hx
  exact ⟨hc, hl, hm, ht⟩⟩
theorem pcs_single {w : World} {b : Nat} {x : Pc} (h : PcRow w b x) : Pcs w (.slice (some ⟨b, 0, none⟩) 1 1) [x] :=
  .inr ⟨by simp, b, 0, 1, rfl, lt_of_heap h, fun i hi => by
    have e : i = 0 := by simpa using hi
    subst e
    exact h.cells.1⟩

/-- What the law reckons: is a byte of class k in class n? -/
def inB (n k : Int) : Bool := decide (n = k) || (decide (n = 7) && decide (0 < k)) || (decide (n = 4) && (decide (k = 2) || decide (k = 3)))

/-- One class's pattern matched with one byte. -/
theorem one_match (c : UInt8) (n : Int) (w : World) (b : Nat) (h : PcRow w b ⟨n, 1, 1, []⟩) (ht : Tab w) (h0 : 1 ≤ n) (h1 : n < 8) : Calls Tryd.prog 26 #[.slice (some ⟨b, 0, none⟩) 1 1, .string ⟨#[c]⟩] w (BoolPost (inB n (cls c)) w) := by
  have h2 := matches_any _ [⟨n, 1, 1, []⟩] [c] w (pcs_single h) (fair_single (by unfold Rng; omega) (by unfold Rng; omega) (by unfold Rng; omega) (by simp)) ht (by simp)
  rw [match_class c (by omega) (by omega)] at h2
  exact h2

def ClRel (w : World) (nv : Value) (wr : World) : Prop := ∃ n : Int, nv = .int .i64 n ∧ 1 ≤ n ∧ n ≤ 8 ∧ Only Nob w wr

set_option maxRecDepth 100000 in
set_option maxHeartbeats 8000000 in
theorem class_law (c : UInt8) (w : World) (ht : Tab w) : Calls Tryd.prog 8 #[.int .u8 c.toNat] w (BoolPost true w) := by
  have HT := Lib.hid ht
  have SN := Lib.hid (sanity_any w ht)
  have C1 := Lib.hid (class_any c)
  have C2 := Lib.hid (rclass_any c)
  have HR := Lib.hid (cls_rng c)
  have HK := Lib.hid (show 0 < cls c ↔ ¬ (c.toNat < 32 ∨ 126 < c.toNat) by
    unfold cls clsN
    repeat' split
    all_goals omega)
  have MT := Lib.hid (one_match c)
  clear ht
  generalize cls c = k at *
  have f1 : ((c.toNat : Int) < 32 ∧ k = 0) ∨ (¬ (c.toNat : Int) < 32 ∧ ¬ (c.toNat : Int) ≤ 126 ∧ k = 0) ∨ (¬ (c.toNat : Int) < 32 ∧ (c.toNat : Int) ≤ 126 ∧ (k = 1 ∨ k = 2 ∨ k = 3 ∨ k = 4 ∨ k = 5 ∨ k = 6)) := by
    have h1 := HK.out
    have h2 := HR.out
    omega
  clear HR HK
  rcases f1 with ⟨f1, rfl⟩ | ⟨f1, f2, rfl⟩ | ⟨f1, f2, rfl | rfl | rfl | rfl | rfl | rfl⟩
  all_goals
    go_enter Tryd.func8, Tryd.ntmps8
    go_wp2_with fail
    refine SN.out.mono ?_
    rintro e w1 ⟨rfl, o1⟩
    have b0 := (Boxed.new w1 5 (.int .u8 c.toNat)).cell
    have cv := conv_one c (w1.alloc (.cells #[.int .u8 c.toNat] 5)) w1.heap.size b0
    have O1 := Lib.hid (o1.nob (Only.alloc Nob w1 (.cells #[.int .u8 c.toNat] 5)))
    clear o1 b0
    go_wp2_with (first | (go_at_call 30; refine (C1.out _).mono ?_; rintro e w' ⟨rfl, rfl⟩) | (go_at_call 31; refine (C2.out _).mono ?_; rintro e w' ⟨rfl, rfl⟩) | fail)
    clear cv
    go_loopw [6] (fun nv wr => ClRel w nv wr) (fun nv _ => 8 - (intOf nv).toNat)
    case atStart => exact ⟨1, rfl, by omega, by omega, O1.out⟩
    case round =>
      obtain ⟨n, rfl, n1, n2, hon⟩ := hrel
      clear O1
      have HO := Lib.hid hon
      clear hon
      have hn : n = 1 ∨ n = 2 ∨ n = 3 ∨ n = 4 ∨ n = 5 ∨ n = 6 ∨ n = 7 ∨ n = 8 := by omega
      clear n1 n2
      obtain ⟨wA, hwA⟩ : ∃ wA, wA = wr.alloc (.cells #[.int .i64 n, .int .i64 1, .int .i64 1, .string ⟨#[]⟩] 31) := ⟨_, rfl⟩
      have hrow : PcRow wA wr.heap.size ⟨n, 1, 1, []⟩ := by rw [hwA]; exact PcRow.new wr ⟨n, 1, 1, []⟩
      have oA : Only Nob w wA := by rw [hwA]; exact HO.out.nob (Only.alloc _ _ _)
      have M := Lib.hid (fun h1 h2 => MT.out n wA _ hrow (HT.out.other oA) h1 h2)
      have OA := Lib.hid oA
      subst hwA
      clear hrow oA
      rcases hn with rfl | rfl | rfl | rfl | rfl | rfl | rfl | rfl
      iterate 7
        · go_wp2_with (first | (go_at_call 26; refine (M.out (by decide) (by decide)).mono ?_; rintro e w2 ⟨rfl, o2⟩) | fail)
          go_roundw
          case rel => exact ⟨_, rfl, by decide, by decide, OA.out.nob o2⟩
          case measure => simp [intOf]
      · go_wp2
        go_ret
        exact ⟨rfl, HO.out⟩

end Go.Proofs.YtddjbfmohibgbaaDoor
