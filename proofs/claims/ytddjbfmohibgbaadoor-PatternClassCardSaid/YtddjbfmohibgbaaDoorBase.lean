/- The memory words: a frame that lets only some blocks change, and rows of bytes. No program is looked at here. -/
import Derived.WalkKit
import Derived.Lib.Hide
import Derived.IntWalk
import Derived.Test.YtddjbfmohibgbaaDoorProg
import Derived.Lib.AppendZeros
import Derived.Laws.CopyOwn
import Derived.Laws.AppendOwnNone
import Derived.Deep.Draws
namespace Go.Proofs.YtddjbfmohibgbaaDoor
open Go.RowKit

/-- Outside the blocks of S the world w' holds what w held. -/
structure Only (S : Nat → Prop) (w w' : World) : Prop where
  os : w'.os = w.os
  tape : w'.tape = w.tape
  output : w'.output = w.output
  size : w.heap.size ≤ w'.heap.size
  block : ∀ k, k < w.heap.size → ¬ S k → w'.heap[k]? = w.heap[k]?

/-- S, and the blocks that are new in w'. -/
def grow (S : Nat → Prop) (w w' : World) : Nat → Prop := fun k => S k ∨ (w.heap.size ≤ k ∧ k < w'.heap.size)

/-- No block. -/
def Nob : Nat → Prop := fun _ => False
/-- One block. -/
def Is (b : Nat) : Nat → Prop := fun k => k = b
/-- The block of a slice. -/
def Blk (v : Value) : Nat → Prop := fun k => v.ownBlock = some k

theorem Only.refl (S : Nat → Prop) (w : World) : Only S w w := ⟨rfl, rfl, rfl, Nat.le_refl _, fun _ _ _ => rfl⟩

theorem Only.trans {S T : Nat → Prop} {a b c : World} (h : Only S a b) (k : Only T b c) (hT : ∀ i, i < a.heap.size → T i → S i) : Only S a c :=
  ⟨k.os.trans h.os, k.tape.trans h.tape, k.output.trans h.output, Nat.le_trans h.size k.size,
   fun i hi hn => (k.block i (Nat.lt_of_lt_of_le hi h.size) (fun ht => hn (hT i hi ht))).trans (h.block i hi hn)⟩

theorem Only.mono {S T : Nat → Prop} {w w' : World} (h : Only S w w') (hs : ∀ i, i < w.heap.size → S i → T i) : Only T w w' :=
  ⟨h.os, h.tape, h.output, h.size, fun i hi hn => h.block i hi (fun x => hn (hs i hi x))⟩

theorem Only.alloc (S : Nat → Prop) (w : World) (o : Obj) : Only S w (w.alloc o) := ⟨rfl, rfl, rfl, by simp, fun k hk _ => Below.heap_alloc w o k hk⟩
theorem Only.drew (S : Nat → Prop) (w : World) : Only S w w.drew := ⟨rfl, rfl, rfl, Nat.le_refl _, fun _ _ _ => rfl⟩
theorem Only.drewN (S : Nat → Prop) (w : World) (n : Nat) : Only S w (w.drewN n) := ⟨rfl, rfl, rfl, Nat.le_refl _, fun _ _ _ => rfl⟩
theorem Only.setCell {S : Nat → Prop} (w : World) (a : Addr) (v : Value) (h : S a.block) : Only S w (w.setCell a v) :=
  ⟨rfl, rfl, rfl, by simp, fun k _ hn => heap_setCell_other w a k v (fun e => hn (e ▸ h))⟩
theorem Only.setRow {S : Nat → Prop} (w : World) (g : Nat) (cs : Array Value) (h : S g) : Only S w (w.setRow g cs) :=
  ⟨rfl, rfl, rfl, by simp, fun k _ hn => setRow_other w g k cs (fun e => hn (e ▸ h))⟩
theorem Only.grown {S : Nat → Prop} {w w' : World} {row : Option Nat} (h : w.grownBy w' row) (hs : ∀ k, row = some k → S k) : Only S w w' :=
  ⟨h.os, h.tape, h.output, h.size, fun k hk hn => h.block k hk (fun e => hn (hs k e.symm))⟩
theorem Only.below {S : Nat → Prop} {w w' : World} (h : Only S w w') {B : Nat} (hB : B ≤ w.heap.size) (hs : ∀ k, S k → B ≤ k) : Below B w w' :=
  ⟨h.os, h.tape, h.output, h.size, fun k hk => h.block k (by omega) (fun x => by have := hs k x; omega)⟩
theorem Only.of_below {w w' : World} {B : Nat} (h : Below B w w') {S : Nat → Prop} (hs : ∀ k, k < w.heap.size → B ≤ k → S k) : Only S w w' :=
  ⟨h.os, h.tape, h.output, h.size, fun k hk hn => h.block k (by rcases Nat.lt_or_ge k B with h1 | h1; exact h1; exact absurd (hs k hk h1) hn)⟩

theorem Only.cell {S : Nat → Prop} {w w' : World} (h : Only S w w') {a : Addr} (hl : a.block < w.heap.size) (hn : ¬ S a.block) : w'.cell? a = w.cell? a := World.cell?_of_block (h.block _ hl hn)
theorem Only.frozen {S : Nat → Prop} {w w' : World} (h : Only S w w') {a : Addr} (hl : a.block < w.heap.size) (hn : ¬ S a.block) : w'.frozen? a = w.frozen? a := World.frozen?_of_block (h.block _ hl hn)

theorem lt_of_heap {w : World} {b : Nat} {o : Obj} (h : w.heap[b]? = some o) : b < w.heap.size := (Array.getElem?_eq_some_iff.1 h).1

/-- Bytes as cells. -/
def cellsB (l : List UInt8) : List Value := l.map fun c => .int .u8 c.toNat
@[simp] theorem length_cellsB (l : List UInt8) : (cellsB l).length = l.length := by simp [cellsB]
theorem cellsB_append (a b : List UInt8) : cellsB (a ++ b) = cellsB a ++ cellsB b := by simp [cellsB]
theorem cellsB_one (l : List UInt8) : ∀ u ∈ cellsB l, u.oneCell' = true := by
  intro u hu
  simp only [cellsB, List.mem_map] at hu
  obtain ⟨c, _, rfl⟩ := hu
  rfl

/-- v is a slice with the bytes l, all that its block holds being the call's own. -/
def Row (w : World) (v : Value) (l : List UInt8) : Prop := w.ownsRow 0 5 1 v l.length (cellsB l)

theorem Row.lt {w : World} {v : Value} {l : List UInt8} (h : Row w v l) {k : Nat} (hk : Blk v k) : k < w.heap.size := (World.ownsRow.lt h k hk).2

theorem Row.other {S : Nat → Prop} {w w' : World} {v : Value} {l : List UInt8} (h : Row w v l) (ho : Only S w w') (hn : ∀ k, Blk v k → ¬ S k) : Row w' v l := by
  refine ⟨h.1, ?_⟩
  rcases h.2 with h2 | ⟨g, cap, cur, rfl, hb, hg, r⟩
  · exact .inl h2
  · exact .inr ⟨g, cap, cur, rfl, hb, (ho.block g (lt_of_heap hg) (hn g rfl)).trans hg, r⟩

/-- v is a slice at the head of a block whose first cells are the bytes l: it is only read. -/
def Src (w : World) (v : Value) (l : List UInt8) : Prop :=
  ∃ g cap cur e fz, v = .slice (some ⟨g, 0, none⟩) l.length cap ∧ w.heap[g]? = some (.cells cur e fz) ∧ cur.toList.take l.length = cellsB l

theorem Src.other {S : Nat → Prop} {w w' : World} {v : Value} {l : List UInt8} (h : Src w v l) (ho : Only S w w') (hn : ∀ k, Blk v k → ¬ S k) : Src w' v l := by
  obtain ⟨g, cap, cur, e, fz, rfl, hg, r⟩ := h
  exact ⟨g, cap, cur, e, fz, rfl, (ho.block g (lt_of_heap hg) (hn g rfl)).trans hg, r⟩

theorem Src.lt {w : World} {v : Value} {l : List UInt8} (h : Src w v l) {k : Nat} (hk : Blk v k) : k < w.heap.size := by
  obtain ⟨g, cap, cur, e, fz, rfl, hg, r⟩ := h
  simp [Blk, Value.ownBlock] at hk
  subst hk
  exact lt_of_heap hg

theorem addr_add0 (g j : Nat) : (⟨g, 0, none⟩ : Addr).add j = ⟨g, j, none⟩ := by unfold Addr.add; split <;> simp_all

theorem Src.cells {w : World} {g cap len : Nat} {l : List UInt8} (h : Src w (.slice (some ⟨g, 0, none⟩) len cap) l) : len = l.length ∧ ∀ j u, (cellsB l)[j]? = some u → w.cell? ((⟨g, 0, none⟩ : Addr).add j) = some u := by
  obtain ⟨g', cap', cur, e, fz, hv, hg, r⟩ := h
  simp only [Value.slice.injEq, Option.some.injEq, Addr.mk.injEq] at hv
  obtain ⟨⟨rfl, _, _⟩, hlen, rfl⟩ := hv
  refine ⟨hlen, fun j u hu => ?_⟩
  rw [addr_add0, cell_of_row w g j cur e fz hg]
  rw [← r, List.getElem?_take] at hu
  split at hu
  · simpa using hu
  · cases hu

theorem Row.src {w : World} {v : Value} {l : List UInt8} (h : Row w v l) (hne : v ≠ .slice none 0 0) : Src w v l := by
  rcases h.2 with ⟨h2, _⟩ | ⟨g, cap, cur, rfl, _, hg, _, _, _, ht⟩
  · exact absurd h2 hne
  · exact ⟨g, cap, cur, 5, (0, 0), rfl, hg, by simpa using ht⟩

theorem cellsB_replicate (n : Nat) : cellsB (List.replicate n 0) = List.replicate n (.int .u8 0) := by simp [cellsB]

/-- A number that fits a machine's int. -/
def Rng (x : Int) : Prop := -9223372036854775808 ≤ x ∧ x ≤ 9223372036854775807
theorem rng_nat {n : Nat} (h : n ≤ 9223372036854775807) : Rng (n : Int) := ⟨by omega, by omega⟩
theorem rng_small {n : Int} (h0 : -1000000000000 ≤ n) (h1 : n ≤ 1000000000000) : Rng n := ⟨by omega, by omega⟩

/-- A string of bytes as a value. -/
def SV (r : List UInt8) : Value := .string ⟨r.toArray⟩

theorem str_eq {s t : ByteArray} (h : s.data.toList = t.data.toList) : s = t := by
  cases s; cases t; congr; exact Array.toList_inj.1 h
theorem SV_of (s : ByteArray) : SV s.data.toList = .string s := congrArg Value.string (str_eq rfl)

theorem only_of_below {n₀ : Nat} {w w' : World} (h : Below n₀ w w') : Only (fun k => n₀ ≤ k) w w' := Only.of_below h (fun _ _ h => h)
theorem grown_of_only {w w' : World} (h : Only Nob w w') : w.grownBy w' none := ⟨h.os, h.tape, h.output, h.size, fun k hk _ => h.block k hk (fun x => x)⟩
theorem nob_of_below {w w' : World} (h : Below w.heap.size w w') : Only Nob w w' := Only.of_below h (fun k h1 h2 => absurd h1 (by omega))
theorem below_of_nob {w w' : World} (h : Only Nob w w') : Below w.heap.size w w' := h.below (Nat.le_refl _) (fun _ h => h.elim)
theorem Only.nob {w w1 w2 : World} (h : Only Nob w w1) (k : Only Nob w1 w2) : Only Nob w w2 := h.trans k (fun _ _ h => h)

end Go.Proofs.YtddjbfmohibgbaaDoor
