/- The memory words for the disk: a frame that lets only some blocks change, rows of bytes, and the disk in memory as a state of plain lists. No program is looked at here. -/
import Derived.WalkKit
import Derived.Lib.AppendZeros
import Derived.Laws.CopyOwn
import Derived.Laws.AppendOwnNone
import Derived.Deep.Draws
namespace Go.Proofs.Ytdpebdghhgojaaa
open Go.RowKit

/-- Outside the blocks of S the world w' holds what w held. -/
structure Only (S : Nat → Prop) (w w' : World) : Prop where
  os : w'.os = w.os
  tape : w'.tape = w.tape
  output : w'.output = w.output
  size : w.heap.size ≤ w'.heap.size
  block : ∀ k, k < w.heap.size → ¬ S k → w'.heap[k]? = w.heap[k]?

/-- S, and the blocks that are new in w'. -/
def grow (S : Nat → Prop) (w w' : World) : Nat → Prop := fun k => S k ∨ (w.heap.size ≤ k ∧ k < w'.heap.size)

/-- No block. -/
def Nob : Nat → Prop := fun _ => False
/-- One block. -/
def Is (b : Nat) : Nat → Prop := fun k => k = b
/-- The block of a slice. -/
def Blk (v : Value) : Nat → Prop := fun k => v.ownBlock = some k

theorem Only.refl (S : Nat → Prop) (w : World) : Only S w w := ⟨rfl, rfl, rfl, Nat.le_refl _, fun _ _ _ => rfl⟩

theorem Only.trans {S T : Nat → Prop} {a b c : World} (h : Only S a b) (k : Only T b c) (hT : ∀ i, i < a.heap.size → T i → S i) : Only S a c :=
  ⟨k.os.trans h.os, k.tape.trans h.tape, k.output.trans h.output, Nat.le_trans h.size k.size,
   fun i hi hn => (k.block i (Nat.lt_of_lt_of_le hi h.size) (fun ht => hn (hT i hi ht))).trans (h.block i hi hn)⟩

theorem Only.mono {S T : Nat → Prop} {w w' : World} (h : Only S w w') (hs : ∀ i, i < w.heap.size → S i → T i) : Only T w w' :=
  ⟨h.os, h.tape, h.output, h.size, fun i hi hn => h.block i hi (fun x => hn (hs i hi x))⟩

theorem Only.alloc (S : Nat → Prop) (w : World) (o : Obj) : Only S w (w.alloc o) := ⟨rfl, rfl, rfl, by simp, fun k hk _ => Below.heap_alloc w o k hk⟩
theorem Only.drew (S : Nat → Prop) (w : World) : Only S w w.drew := ⟨rfl, rfl, rfl, Nat.le_refl _, fun _ _ _ => rfl⟩
theorem Only.drewN (S : Nat → Prop) (w : World) (n : Nat) : Only S w (w.drewN n) := ⟨rfl, rfl, rfl, Nat.le_refl _, fun _ _ _ => rfl⟩
theorem Only.setCell {S : Nat → Prop} (w : World) (a : Addr) (v : Value) (h : S a.block) : Only S w (w.setCell a v) :=
  ⟨rfl, rfl, rfl, by simp, fun k _ hn => heap_setCell_other w a k v (fun e => hn (e ▸ h))⟩
theorem Only.setRow {S : Nat → Prop} (w : World) (g : Nat) (cs : Array Value) (h : S g) : Only S w (w.setRow g cs) :=
  ⟨rfl, rfl, rfl, by simp, fun k _ hn => setRow_other w g k cs (fun e => hn (e ▸ h))⟩
theorem Only.grown {S : Nat → Prop} {w w' : World} {row : Option Nat} (h : w.grownBy w' row) (hs : ∀ k, row = some k → S k) : Only S w w' :=
  ⟨h.os, h.tape, h.output, h.size, fun k hk hn => h.block k hk (fun e => hn (hs k e.symm))⟩
theorem Only.below {S : Nat → Prop} {w w' : World} (h : Only S w w') {B : Nat} (hB : B ≤ w.heap.size) (hs : ∀ k, S k → B ≤ k) : Below B w w' :=
  ⟨h.os, h.tape, h.output, h.size, fun k hk => h.block k (by omega) (fun x => by have := hs k x; omega)⟩
theorem Only.of_below {w w' : World} {B : Nat} (h : Below B w w') {S : Nat → Prop} (hs : ∀ k, k < w.heap.size → B ≤ k → S k) : Only S w w' :=
  ⟨h.os, h.tape, h.output, h.size, fun k hk hn => h.block k (by rcases Nat.lt_or_ge k B with h1 | h1; exact h1; exact absurd (hs k hk h1) hn)⟩

theorem Only.cell {S : Nat → Prop} {w w' : World} (h : Only S w w') {a : Addr} (hl : a.block < w.heap.size) (hn : ¬ S a.block) : w'.cell? a = w.cell? a := World.cell?_of_block (h.block _ hl hn)
theorem Only.frozen {S : Nat → Prop} {w w' : World} (h : Only S w w') {a : Addr} (hl : a.block < w.heap.size) (hn : ¬ S a.block) : w'.frozen? a = w.frozen? a := World.frozen?_of_block (h.block _ hl hn)

theorem lt_of_heap {w : World} {b : Nat} {o : Obj} (h : w.heap[b]? = some o) : b < w.heap.size := (Array.getElem?_eq_some_iff.1 h).1

/-- Bytes as cells. -/
def cellsB (l : List UInt8) : List Value := l.map fun c => .int .u8 c.toNat
@[simp] theorem length_cellsB (l : List UInt8) : (cellsB l).length = l.length := by simp [cellsB]
theorem cellsB_append (a b : List UInt8) : cellsB (a ++ b) = cellsB a ++ cellsB b := by simp [cellsB]
theorem cellsB_one (l : List UInt8) : ∀ u ∈ cellsB l, u.oneCell' = true := by
  intro u hu
  simp only [cellsB, List.mem_map] at hu
  obtain ⟨c, _, rfl⟩ := hu
  rfl

/-- v is a slice with the bytes l, all that its block holds being the call's own. -/
def Row (w : World) (v : Value) (l : List UInt8) : Prop := w.ownsRow 0 5 1 v l.length (cellsB l)

theorem Row.lt {w : World} {v : Value} {l : List UInt8} (h : Row w v l) {k : Nat} (hk : Blk v k) : k < w.heap.size := (World.ownsRow.lt h k hk).2

theorem Row.other {S : Nat → Prop} {w w' : World} {v : Value} {l : List UInt8} (h : Row w v l) (ho : Only S w w') (hn : ∀ k, Blk v k → ¬ S k) : Row w' v l := by
  refine ⟨h.1, ?_⟩
  rcases h.2 with h2 | ⟨g, cap, cur, rfl, hb, hg, r⟩
  · exact .inl h2
  · exact .inr ⟨g, cap, cur, rfl, hb, (ho.block g (lt_of_heap hg) (hn g rfl)).trans hg, r⟩

/-- v is a slice at the head of a block whose first cells are the bytes l: it is only read. -/
def Src (w : World) (v : Value) (l : List UInt8) : Prop :=
  ∃ g cap cur e fz, v = .slice (some ⟨g, 0, none⟩) l.length cap ∧ w.heap[g]? = some (.cells cur e fz) ∧ cur.toList.take l.length = cellsB l

theorem Src.other {S : Nat → Prop} {w w' : World} {v : Value} {l : List UInt8} (h : Src w v l) (ho : Only S w w') (hn : ∀ k, Blk v k → ¬ S k) : Src w' v l := by
  obtain ⟨g, cap, cur, e, fz, rfl, hg, r⟩ := h
  exact ⟨g, cap, cur, e, fz, rfl, (ho.block g (lt_of_heap hg) (hn g rfl)).trans hg, r⟩

theorem Src.lt {w : World} {v : Value} {l : List UInt8} (h : Src w v l) {k : Nat} (hk : Blk v k) : k < w.heap.size := by
  obtain ⟨g, cap, cur, e, fz, rfl, hg, r⟩ := h
  simp [Blk, Value.ownBlock] at hk
  subst hk
  exact lt_of_heap hg

theorem addr_add0 (g j : Nat) : (⟨g, 0, none⟩ : Addr).add j = ⟨g, j, none⟩ := by unfold Addr.add; split <;> simp_all

theorem Src.cells {w : World} {g cap len : Nat} {l : List UInt8} (h : Src w (.slice (some ⟨g, 0, none⟩) len cap) l) : len = l.length ∧ ∀ j u, (cellsB l)[j]? = some u → w.cell? ((⟨g, 0, none⟩ : Addr).add j) = some u := by
  obtain ⟨g', cap', cur, e, fz, hv, hg, r⟩ := h
  simp only [Value.slice.injEq, Option.some.injEq, Addr.mk.injEq] at hv
  obtain ⟨⟨rfl, _, _⟩, hlen, rfl⟩ := hv
  refine ⟨hlen, fun j u hu => ?_⟩
  rw [addr_add0, cell_of_row w g j cur e fz hg]
  rw [← r, List.getElem?_take] at hu
  split at hu
  · simpa using hu
  · cases hu

theorem Row.src {w : World} {v : Value} {l : List UInt8} (h : Row w v l) (hne : v ≠ .slice none 0 0) : Src w v l := by
  rcases h.2 with ⟨h2, _⟩ | ⟨g, cap, cur, rfl, _, hg, _, _, _, ht⟩
  · exact absurd h2 hne
  · exact ⟨g, cap, cur, 5, (0, 0), rfl, hg, by simpa using ht⟩

/-- Writing s at off to contents c. -/
def put (c : List UInt8) (off : Nat) (s : List UInt8) : List UInt8 :=
  (c ++ List.replicate (off + s.length - c.length) 0).take off ++ (s ++ (c ++ List.replicate (off + s.length - c.length) 0).drop (off + s.length))

theorem length_put (c : List UInt8) (off : Nat) (s : List UInt8) : (put c off s).length = max c.length (off + s.length) := by
  simp [put]; omega

theorem put_empty (c : List UInt8) (off : Nat) (h : off ≤ c.length) : put c off [] = c := by
  simp [put, show off - c.length = 0 by omega]

theorem put_in (c : List UInt8) (off : Nat) (s : List UInt8) (h : off + s.length ≤ c.length) : put c off s = c.take off ++ (s ++ c.drop (off + s.length)) := by
  simp [put, show off + s.length - c.length = 0 by omega]

theorem splice_take (cur s : List Value) (off n : Nat) (h : off + s.length ≤ n) (hn : n ≤ cur.length) :
    (cur.take off ++ (s ++ cur.drop (off + s.length))).take n = (cur.take n).take off ++ (s ++ (cur.take n).drop (off + s.length)) := by
  have l1 : (cur.take off).length = off := by simp; omega
  have a1 : (cur.take off).take n = cur.take off := List.take_of_length_le (by omega)
  have a2 : s.take (n - off) = s := List.take_of_length_le (by omega)
  rw [List.take_append, l1, a1, List.take_append, a2, List.take_take, Nat.min_eq_left (show off ≤ n by omega), List.drop_take, show n - off - s.length = n - (off + s.length) by omega]

/-- The builtin copy of bytes into a row of the call's own, from off on. -/
theorem wpList_copy_put {P : Program} {w : World} {ops : Array Oper} {rest : List Oper} {o : Oper} {a : Act} {Q : Exit → Act → World → Prop} (hgd : o.guard = none) (d s : Operand) (dT sT : TypeId)
    (ho : o.op = .call { callee := .builtin .copy, args := #[d, s], argTypes := #[dT, sT] }) (hu : P.underlying dT = some (.slice 5)) (hsz : (P.info? 5).map (·.size) = some 1)
    (ao : Option Addr) (cap : Nat) (c : List UInt8) (hrow : Row w (.slice ao c.length cap) c) (off : Nat) (dp : Option Addr) (dLen dCap : Nat) (hd : a.eval d = .slice dp dLen dCap) (hdl : dLen = c.length - off)
    (sp : Option Addr) (sLen sCap : Nat) (sl : List UInt8) (hs : a.eval s = .slice sp sLen sCap) (hsl : sLen = sl.length) (hsrc : Src w (.slice sp sl.length sCap) sl) (hfit : off + sl.length ≤ c.length)
    (hdp : 0 < sl.length → dp = ao.map (fun x => x.add off))
    (h : ∀ w', Row w' (.slice ao c.length cap) (put c off sl) → Only (Blk (.slice ao c.length cap)) w w' → wpList P ops Q rest (a.put o.dst (goInt sl.length)) w') : wpList P ops Q (o :: rest) a w := by
  subst hdl hsl
  by_cases h0 : sl.length = 0
  · obtain rfl : sl = [] := List.eq_nil_of_length_eq_zero h0
    refine wpList_copy_nothing hgd d s dT sT ho 5 hu hsz dp sp (c.length - off) dCap 0 sCap hd hs (Nat.zero_min _) ?_
    exact h w (by rw [put_empty c off (by simpa using hfit)]; exact hrow) (Only.refl _ _)
  · have hdp' := hdp (by omega)
    obtain ⟨gs, scap, scur, se, sfz, hv, hsg, hst⟩ := hsrc
    simp only [Value.slice.injEq] at hv
    obtain ⟨rfl, _, rfl⟩ := hv
    rcases hrow.2 with ⟨h2, hn⟩ | ⟨g, cap', cur, hv, _, hg, hnc, hcm, hcs, ht⟩
    · omega
    · simp only [Value.slice.injEq] at hv
      obtain ⟨rfl, _, rfl⟩ := hv
      have hdp2 : dp = some ⟨g, off, none⟩ := by rw [hdp']; simp [addr_add0]
      subst hdp2
      simp only [Nat.mul_one] at ht hcs
      have hsz' : off + sl.length ≤ cur.size := by omega
      refine wpList_copy_own hgd d s dT sT ho 5 hu hsz g off (c.length - off) dCap ⟨gs, 0, none⟩ sl.length sCap hd hs cur 5 hg (cellsB sl) (by rw [length_cellsB]; show _ = min _ _; omega) ?_ (by simpa using hsz') (cellsB_one sl) ?_
      · intro j v hj
        rw [addr_add0, cell_of_row w gs j scur se sfz hsg]
        rw [← hst, List.getElem?_take] at hj
        split at hj
        · simpa using hj
        · cases hj
      · have e := h (w.setRow g (cur.toList.take off ++ (cellsB sl ++ cur.toList.drop (off + (cellsB sl).length))).toArray) ?_ (Only.setRow _ _ _ (by simp [Blk, Value.ownBlock]))
        · simpa using e
        · have hl : (put c off sl).length = c.length := by rw [length_put]; omega
          refine ⟨by rw [length_cellsB, Nat.mul_one], .inr ⟨g, cap, _, by rw [hl], Nat.zero_le _, setRow_heap w g cur _ 5 _ hg, by omega, hcm, ?_, ?_⟩⟩
          · simp; omega
          · rw [hl, put_in c off sl hfit]
            simp only [Nat.mul_one]
            have hcl : cur.toList.take c.length = cellsB c := ht
            have e3 : cellsB (c.take off) = (cellsB c).take off := by simp [cellsB]
            have e4 : cellsB (c.drop (off + sl.length)) = (cellsB c).drop (off + sl.length) := by simp [cellsB]
            rw [cellsB_append, cellsB_append, e3, e4, ← hcl]
            have := splice_take cur.toList (cellsB sl) off c.length (by simpa using hfit) (by simp; omega)
            simpa using this

theorem cellsB_replicate (n : Nat) : cellsB (List.replicate n 0) = List.replicate n (.int .u8 0) := by simp [cellsB]

end Go.Proofs.Ytdpebdghhgojaaa
