/- The walk of the sanity check: the examples of the chapter hold. -/
import Derived.Test.YtdpebdghhgojaaaSame
namespace Go.Proofs.Ytdpebdghhgojaaa
open Go.RowKit

/-- All blocks of fp are new since W. -/
def Since (W : World) (fp : Nat → Prop) : Prop := ∀ k, fp k → W.heap.size ≤ k
theorem Since.nob (W : World) : Since W Nob := fun _ h => h.elim
theorem Since.grow {W a b : World} {fp : Nat → Prop} (h : Since W fp) (ha : W.heap.size ≤ a.heap.size) : Since W (grow fp a b) := by
  rintro k (hk | ⟨hk, _⟩)
  · exact h k hk
  · omega
theorem Since.only {W a b : World} {fp : Nat → Prop} (h : Since W fp) (h1 : Only Nob W a) (h2 : Only fp a b) : Only Nob W b :=
  h1.trans h2 (fun i hi hx => by have := h i hx; omega)

def sA1 : DS := DS.new.wr 2 [97, 98]
def sA2 : DS := sA1.sy
def sA3 : DS := sA2.wr 3 [120, 121, 122]
def sC : DS := sA3.crashed []
def sE : DS := DS.new.wr 60 (List.replicate 70 120)
def sF : DS := sE.crashed [0, 1]
def sG1 : DS := DS.new.failed 1
def sG2 : DS := sG1.sy

theorem e1 : DS.new.wrE 2 [97, 98] = 0 := by decide
theorem e2 : sA1.now.length = 4 := by decide
theorem e3 : sA1.read 0 9 = [0, 0, 97, 98] := by decide
theorem e4 : sA1.syE = 0 := by decide
theorem e5 : sA2.wrE 3 [120, 121, 122] = 0 := by decide
theorem e6 : DS.new.wrE 60 (List.replicate 70 120) = 0 := by decide
theorem e7 : sG1.syE = 0 := by decide
theorem e8 : sG2.wrE 0 [97] = 70 := by decide
theorem e9 : sG2.wr 0 [97] = sG2 := if_pos (.inr (by decide))
theorem e10 : sG2.wrE (-1) [97] = 1 := by decide
theorem e11 : sG2.wr (-1) [97] = sG2 := if_pos (.inl (by decide))
theorem e12 : sG2.calls = 1 := by decide
theorem e13 : sC.read 0 9 = [0, 0, 97, 98] := by decide
theorem e14 : sF.now.length = 128 := by decide +kernel
theorem e15 : sF.read 60 9 = [0, 0, 0, 0, 120, 120, 120, 120, 120] := by decide +kernel

theorem rng_small {n : Int} (h1 : -100000 ≤ n) (h2 : n ≤ 100000000) : Rng n := ⟨by omega, by omega⟩

def SanePost (w : World) (e : Ending) (w' : World) : Prop := e = .returned (.bool true) ∧ Only Nob w w'

set_option maxRecDepth 100000 in
set_option maxHeartbeats 4000000 in
theorem sanity_any (w : World) : Calls Try.prog 19 #[] w (SanePost w) := by
  go_enter Try.func19, Try.ntmps19
  go_wp2_with fail
  refine (new_any _).mono ?_
  rintro e w1 ⟨b1, rfl, -, d1, o1, -⟩
  have n1 := (Since.nob w).grow (b := w1) (Nat.le_refl _)
  go_wp2_with fail
  have h := write_all _ b1 2 ⟨#[97, 98]⟩ _ _ d1 (by decide) (rng_small (by omega) (by omega)) (by decide)
  rw [show DS.new.wrE 2 (⟨#[97, 98]⟩ : ByteArray).data.toList = 0 from e1] at h
  refine h.mono ?_
  clear h
  rintro e w2 ⟨rfl, d2, o2⟩
  have a2 := n1.only o1 o2
  have n2 := n1.grow (b := w2) o1.size
  go_wp2_with fail
  have h := size_any _ b1 _ _ d2
  rw [show (DS.new.wr 2 (⟨#[97, 98]⟩ : ByteArray).data.toList).now.length = 4 from e2] at h
  refine h.mono ?_
  clear h
  rintro e w2' ⟨rfl, rfl⟩
  go_wp2_with fail
  have h := read_all _ b1 0 9 _ _ d2 (rng_small (by omega) (by omega)) (rng_small (by omega) (by omega))
  rw [show (DS.new.wr 2 (⟨#[97, 98]⟩ : ByteArray).data.toList).read 0 9 = [0, 0, 97, 98] from e3] at h
  refine h.mono ?_
  clear h
  rintro e w3 ⟨rfl, o3⟩
  have d3 := d2.other o3 (fun _ _ h => h)
  have a3 := a2.trans o3 (fun _ _ h => h)
  go_wp2_with fail
  have h := sync_all _ b1 _ _ d3 (by decide)
  rw [show (DS.new.wr 2 (⟨#[97, 98]⟩ : ByteArray).data.toList).syE = 0 from e4] at h
  refine h.mono ?_
  clear h
  rintro e w4 ⟨rfl, d4, o4⟩
  have a4 := n2.only a3 o4
  have n4 := n2.grow (b := w4) a3.size
  go_wp2_with fail
  have h := write_all _ b1 3 ⟨#[120, 121, 122]⟩ _ _ d4 (by decide) (rng_small (by omega) (by omega)) (by decide)
  rw [show (DS.new.wr 2 (⟨#[97, 98]⟩ : ByteArray).data.toList).sy.wrE 3 (⟨#[120, 121, 122]⟩ : ByteArray).data.toList = 0 from e5] at h
  refine h.mono ?_
  clear h
  rintro e w5 ⟨rfl, d5, o5⟩
  have a5 := n4.only a4 o5
  go_wp2_with fail
  refine (crash_any _ b1 _ (.slice none 0 0) [] _ d5 (.inl ⟨rfl, _, _, rfl⟩)).mono ?_
  rintro e w6 ⟨bc, rfl, -, dc, o6⟩
  have a6 := a5.trans o6 (fun _ _ h => h)
  clear d1 d2 d3 d4 d5 n1 n2 n4
  go_wp2_with fail
  refine (new_any _).mono ?_
  rintro e w7 ⟨b7, rfl, -, d7, o7, -⟩
  have n7 := (Since.nob w6).grow (b := w7) (Nat.le_refl _)
  go_wp2_with fail
  refine (repeated_any 120 70 _ (by omega)).mono ?_
  rintro e w8 ⟨rfl, o8⟩
  have d8 := d7.other o8 (fun _ _ h => h)
  have c8 := o7.trans o8 (fun _ _ h => h)
  go_wp2_with fail
  have h := write_all _ b7 60 ⟨(List.replicate 70 120).toArray⟩ _ _ d8 (by decide) (rng_small (by omega) (by omega)) (by decide)
  rw [show DS.new.wrE 60 (⟨(List.replicate 70 120).toArray⟩ : ByteArray).data.toList = 0 from e6] at h
  refine h.mono ?_
  clear h
  rintro e w9 ⟨rfl, d9, o9⟩
  have c9 := n7.only c8 o9
  go_wp2_with fail
  have oz : Only Nob w9 (w9.alloc (.cells #[.int .i64 0, .int .i64 1] 3)) := Only.alloc _ _ _
  have hz : Ints (w9.alloc (.cells #[.int .i64 0, .int .i64 1] 3)) (.slice (some ⟨w9.heap.size, 0, none⟩) 2 2) [0, 1] := by
    refine .inr ⟨by decide, w9.heap.size, 0, 2, rfl, by decide, fun i hi => ?_⟩
    rw [Nat.zero_add, World.cell?_alloc_new]
    match i, hi with
    | 0, _ => rfl
    | 1, _ => rfl
    | j + 2, h => simp at h; omega
  refine (crash_any _ b7 _ _ [0, 1] _ (d9.other oz (fun _ _ h => h)) hz).mono ?_
  rintro e w10 ⟨bf, rfl, -, df, o10⟩
  have c10 := (c9.trans oz (fun _ _ h => h)).trans o10 (fun _ _ h => h)
  clear d7 d8 d9 n7 hz
  go_wp2_with fail
  refine (new_any _).mono ?_
  rintro e w11 ⟨bg, rfl, -, dg, o11, -⟩
  have n11 := (Since.nob w10).grow (b := w11) (Nat.le_refl _)
  go_wp2_with fail
  refine (fail_any _ bg _ 1 _ dg (by omega)).mono ?_
  rintro e w12 ⟨rfl, d12, o12⟩
  have g12 := n11.only o11 o12
  have n12 := n11.grow (b := w12) o11.size
  go_wp2_with fail
  have h := sync_all _ bg _ _ d12 (by decide)
  rw [show (DS.new.failed 1).syE = 0 from e7] at h
  refine h.mono ?_
  clear h
  rintro e w13 ⟨rfl, d13, o13⟩
  have g13 := n12.only g12 o13
  have n13 := n12.grow (b := w13) g12.size
  go_wp2_with fail
  have h := write_all _ bg 0 ⟨#[97]⟩ _ _ d13 (by decide) (rng_small (by omega) (by omega)) (by decide)
  rw [show (DS.new.failed 1).sy.wrE 0 (⟨#[97]⟩ : ByteArray).data.toList = 70 from e8, show (DS.new.failed 1).sy.wr 0 (⟨#[97]⟩ : ByteArray).data.toList = (DS.new.failed 1).sy from e9] at h
  refine h.mono ?_
  clear h
  rintro e w14 ⟨rfl, d14, o14⟩
  have g14 := n13.only g13 o14
  have n14 := n13.grow (b := w14) g13.size
  go_wp2_with fail
  have h := write_all _ bg (-1) ⟨#[97]⟩ _ _ d14 (by decide) (rng_small (by omega) (by omega)) (by decide)
  rw [show (DS.new.failed 1).sy.wrE (-1) (⟨#[97]⟩ : ByteArray).data.toList = 1 from e10, show (DS.new.failed 1).sy.wr (-1) (⟨#[97]⟩ : ByteArray).data.toList = (DS.new.failed 1).sy from e11] at h
  refine h.mono ?_
  clear h
  rintro e w15 ⟨rfl, d15, o15⟩
  have g15 := n14.only g14 o15
  go_wp2_with fail
  have h := calls_any _ bg _ _ d15
  rw [show (DS.new.failed 1).sy.calls = 1 from e12] at h
  refine h.mono ?_
  clear h
  rintro e w15' ⟨rfl, rfl⟩
  clear d12 d13 d14 d15 dg n11 n12 n13 n14
  have c15 := c10.trans g15 (fun _ _ h => h)
  go_wp2_with fail
  have h := read_all _ bc 0 9 _ _ (dc.other c15 (fun _ _ h => h)) (rng_small (by omega) (by omega)) (rng_small (by omega) (by omega))
  rw [show (((DS.new.wr 2 (⟨#[97, 98]⟩ : ByteArray).data.toList).sy.wr 3 (⟨#[120, 121, 122]⟩ : ByteArray).data.toList).crashed []).read 0 9 = [0, 0, 97, 98] from e13] at h
  refine h.mono ?_
  clear h
  rintro e w16 ⟨rfl, o16⟩
  have df16 := (df.other g15 (fun _ _ h => h)).other o16 (fun _ _ h => h)
  go_wp2_with fail
  have h := size_any _ bf _ _ df16
  rw [show ((DS.new.wr 60 (⟨(List.replicate 70 120).toArray⟩ : ByteArray).data.toList).crashed [0, 1]).now.length = 128 from e14] at h
  refine h.mono ?_
  clear h
  rintro e w16' ⟨rfl, rfl⟩
  go_wp2_with fail
  have h := read_all _ bf 60 9 _ _ df16 (rng_small (by omega) (by omega)) (rng_small (by omega) (by omega))
  rw [show ((DS.new.wr 60 (⟨(List.replicate 70 120).toArray⟩ : ByteArray).data.toList).crashed [0, 1]).read 60 9 = [0, 0, 0, 0, 120, 120, 120, 120, 120] from e15] at h
  refine h.mono ?_
  clear h
  rintro e w17 ⟨rfl, o17⟩
  go_wp2
  go_ret
  exact ⟨rfl, a6.trans (c15.trans (o16.trans o17 (fun _ _ h => h)) (fun _ _ h => h)) (fun _ _ h => h)⟩
end Go.Proofs.Ytdpebdghhgojaaa
