/- The journal in memory: its own block, rows of strings, slices of strings that are only read. -/
import Derived.Test.YtdpebdghhgojaaaJIter
namespace Go.Proofs.Ytdpebdghhgojaaa
open Go.RowKit

/-- A string of bytes as a value. -/
def SV (r : List UInt8) : Value := .string ⟨r.toArray⟩

structure JS where
  many : Nat
  bytes : Nat
  end_ : Nat
  broken : Bool

/-- The journal's own five cells. -/
def JHdr (w : World) (jb db : Nat) (js : JS) : Prop :=
  w.heap[jb]? = some (.cells #[.pointer (some ⟨db, 0, none⟩), .int .i64 js.many, .int .i64 js.bytes, .int .i64 js.end_, .bool js.broken] 96 (0, 0))

theorem JHdr.cells {w : World} {jb db : Nat} {js : JS} (h : JHdr w jb db js) :
    w.cell? ⟨jb, 0, none⟩ = some (.pointer (some ⟨db, 0, none⟩)) ∧ w.cell? ⟨jb, 1, none⟩ = some (.int .i64 js.many) ∧ w.cell? ⟨jb, 2, none⟩ = some (.int .i64 js.bytes) ∧ w.cell? ⟨jb, 3, none⟩ = some (.int .i64 js.end_) ∧ w.cell? ⟨jb, 4, none⟩ = some (.bool js.broken) := by
  unfold JHdr at h
  simp [World.cell?, h]
theorem JHdr.free {w : World} {jb db : Nat} {js : JS} (h : JHdr w jb db js) (i : Nat) : w.frozen? ⟨jb, i, none⟩ = false := by
  unfold JHdr at h
  simp [World.frozen?, h]
theorem JHdr.lt {w : World} {jb db : Nat} {js : JS} (h : JHdr w jb db js) : jb < w.heap.size := lt_of_heap h
theorem JHdr.other {S : Nat → Prop} {w w' : World} {jb db : Nat} {js : JS} (h : JHdr w jb db js) (ho : Only S w w') (hn : ¬ S jb) : JHdr w' jb db js := (ho.block jb h.lt hn).trans h
theorem JHdr.many' {w : World} {jb db : Nat} {js : JS} (h : JHdr w jb db js) (n : Nat) : JHdr (w.setCell ⟨jb, 1, none⟩ (.int .i64 n)) jb db { js with many := n } := heap_setCell_same w jb 1 _ 96 _ h
theorem JHdr.bytes' {w : World} {jb db : Nat} {js : JS} (h : JHdr w jb db js) (n : Nat) : JHdr (w.setCell ⟨jb, 2, none⟩ (.int .i64 n)) jb db { js with bytes := n } := heap_setCell_same w jb 2 _ 96 _ h
theorem JHdr.end' {w : World} {jb db : Nat} {js : JS} (h : JHdr w jb db js) (n : Nat) : JHdr (w.setCell ⟨jb, 3, none⟩ (.int .i64 n)) jb db { js with end_ := n } := heap_setCell_same w jb 3 _ 96 _ h
theorem JHdr.broken' {w : World} {jb db : Nat} {js : JS} (h : JHdr w jb db js) (b : Bool) : JHdr (w.setCell ⟨jb, 4, none⟩ (.bool b)) jb db { js with broken := b } := heap_setCell_same w jb 4 _ 96 _ h

/-- A row of strings of the call's own. -/
def Srow (w : World) (v : Value) (l : List (List UInt8)) : Prop := w.ownsRow 0 9 1 v l.length (l.map SV)

theorem Srow.other {S : Nat → Prop} {w w' : World} {v : Value} {l : List (List UInt8)} (h : Srow w v l) (ho : Only S w w') (hn : ∀ k, Blk v k → ¬ S k) : Srow w' v l := Own.other h ho hn
theorem Srow.lt {w : World} {v : Value} {l : List (List UInt8)} (h : Srow w v l) {k : Nat} (hk : Blk v k) : k < w.heap.size := Own.lt h hk
theorem Srow.nil (w : World) : Srow w (.slice none 0 0) [] := World.ownsRow_nil _ _ _ _

theorem Try.info9 : (Try.prog.info? 9).map (fun i => (i.zero, i.size, i.bytes)) = some (some (.string .empty), 1, 16) := by kernel_rfl

theorem run_append_str (w : World) (ty : TypeId) (v : Value) (l : List (List UInt8)) (h : Srow w v l) (hl : l.length ≤ 1000000000) (g : Nat) (r : List UInt8) (hg : w.cell? ⟨g, 0, none⟩ = some (SV r)) :
    ∃ g' cap w', (Builtin.append_ #[64, 64] ty #[v, .slice (some ⟨g, 0, none⟩) 1 1]).run Try.prog w = .ok (.slice (some ⟨g', 0, none⟩) (l.length + 1) cap) w' ∧ Srow w' (.slice (some ⟨g', 0, none⟩) (l.length + 1) cap) (l ++ [r]) ∧ Only (Blk v) w w' ∧ (Blk v g' ∨ w.heap.size ≤ g') := by
  obtain ⟨i0, hi, hz0, hz1, hz2⟩ := info_parts Try.info9
  obtain ⟨v', w', hr, h1, h2, h3, h4⟩ := run_append_own_f (P := Try.prog) w 64 ty 9 i0 _ 1 16 Try.underlying64 hi hz0 hz1 hz2 rfl (by decide) v l.length _ h ⟨g, 0, none⟩ 1 1 [SV r] rfl
    (by intro j u hj; match j, hj with | 0, hj => obtain rfl := Option.some.inj hj; exact hg | j + 1, hj => simp at hj) (by intro u hu; simp at hu; subst hu; rfl) (by unfold maxLen; omega) (by omega)
  obtain ⟨g', cap, rfl, _, _⟩ := own_form_pos h1 (by omega)
  refine ⟨g', cap, w', hr, ?_, Only.grown h2 (fun k hk => hk), h3 g' rfl⟩
  unfold Srow
  simpa using h1

/-- v is a slice that reads as the strings l. -/
def Strs (w : World) (v : Value) (l : List (List UInt8)) : Prop :=
  (l = [] ∧ ∃ ao cap, v = .slice ao 0 cap) ∨
  (0 < l.length ∧ ∃ b off cap, v = .slice (some ⟨b, off, none⟩) l.length cap ∧ b < w.heap.size ∧ ∀ i (h : i < l.length), w.cell? ⟨b, off + i, none⟩ = some (SV l[i]))

theorem Strs.form {w : World} {v : Value} {l : List (List UInt8)} (h : Strs w v l) : ∃ ao cap, v = .slice ao l.length cap := by
  rcases h with ⟨rfl, ao, cap, rfl⟩ | ⟨_, b, off, cap, rfl, _⟩
  · exact ⟨ao, cap, rfl⟩
  · exact ⟨_, cap, rfl⟩
theorem Strs.other {S : Nat → Prop} {w w' : World} {v : Value} {l : List (List UInt8)} (h : Strs w v l) (ho : Only S w w') (hn : ∀ b off cap n, v = .slice (some ⟨b, off, none⟩) n cap → ¬ S b) : Strs w' v l := by
  rcases h with h | ⟨h0, b, off, cap, rfl, hb, hc⟩
  · exact .inl h
  · exact .inr ⟨h0, b, off, cap, rfl, Nat.lt_of_lt_of_le hb ho.size, fun i hi => (ho.cell (a := ⟨b, off + i, none⟩) hb (hn b off cap _ rfl)).trans (hc i hi)⟩
theorem Srow.strs {w : World} {v : Value} {l : List (List UInt8)} (h : Srow w v l) : Strs w v l := by
  rcases h.2 with ⟨hv, hn⟩ | ⟨g, cap, cur, rfl, _, hg, _, _, _, ht⟩
  · exact .inl ⟨List.eq_nil_of_length_eq_zero hn, _, _, hv⟩
  · by_cases h0 : 0 < l.length
    · refine .inr ⟨h0, g, 0, cap, rfl, lt_of_heap hg, fun i hi => ?_⟩
      rw [Nat.zero_add, cell_of_row w g i cur 9 _ hg]
      have e : (cur.toList.take (l.length * 1))[i]? = (l.map SV)[i]? := by rw [ht]
      rw [List.getElem?_take, if_pos (by omega), List.getElem?_map, List.getElem?_eq_getElem hi] at e
      simpa using e
    · obtain rfl : l = [] := List.eq_nil_of_length_eq_zero (by omega)
      exact .inl ⟨rfl, _, _, rfl⟩
theorem strs_blk {v : Value} {b off n cap : Nat} (h : v = .slice (some ⟨b, off, none⟩) n cap) : Blk v b := by subst h; rfl

end Go.Proofs.Ytdpebdghhgojaaa
