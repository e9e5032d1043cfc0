/- Chapter 05: memory words; classes; slices of integers that came in. -/
import Derived.WalkKit
import Derived.Lib.Hide
import Derived.IntWalk
import Derived.Test.YtddjbfmohibgbaaDoorProg
import Derived.Lib.AppendZeros
import Derived.Laws.CopyOwn
import Derived.Laws.AppendOwnNone
import Derived.Deep.Draws
import Derived.Test.YtddjbfmohibgbaaDoorPlainA
import Derived.Lib.ConvBytes
import Derived.Lib.AppendStr

/- The memory words: a frame that lets only some blocks change, and rows of bytes. No program is looked at here. -/
namespace Go.Proofs.YtddjbfmohibgbaaDoor
open Go.RowKit

/-- Outside the blocks of S the world w' holds what w held. -/
structure Only (S : Nat → Prop) (w w' : World) : Prop where
  os : w'.os = w.os
  tape : w'.tape = w.tape
  output : w'.output = w.output
  size : w.heap.size ≤ w'.heap.size
  block : ∀ k, k < w.heap.size → ¬ S k → w'.heap[k]? = w.heap[k]?

/-- S, and the blocks that are new in w'. -/
def grow (S : Nat → Prop) (w w' : World) : Nat → Prop := fun k => S k ∨ (w.heap.size ≤ k ∧ k < w'.heap.size)

/-- No block. -/
def Nob : Nat → Prop := fun _ => False
/-- One block. -/
def Is (b : Nat) : Nat → Prop := fun k => k = b
/-- The block of a slice. -/
def Blk (v : Value) : Nat → Prop := fun k => v.ownBlock = some k

theorem Only.refl (S : Nat → Prop) (w : World) : Only S w w := ⟨rfl, rfl, rfl, Nat.le_refl _, fun _ _ _ => rfl⟩

theorem Only.trans {S T : Nat → Prop} {a b c : World} (h : Only S a b) (k : Only T b c) (hT : ∀ i, i < a.heap.size → T i → S i) : Only S a c :=
  ⟨k.os.trans h.os, k.tape.trans h.tape, k.output.trans h.output, Nat.le_trans h.size k.size,
   fun i hi hn => (k.block i (Nat.lt_of_lt_of_le hi h.size) (fun ht => hn (hT i hi ht))).trans (h.block i hi hn)⟩

theorem Only.mono {S T : Nat → Prop} {w w' : World} (h : Only S w w') (hs : ∀ i, i < w.heap.size → S i → T i) : Only T w w' :=
  ⟨h.os, h.tape, h.output, h.size, fun i hi hn => h.block i hi (fun x => hn (hs i hi x))⟩

theorem Only.alloc (S : Nat → Prop) (w : World) (o : Obj) : Only S w (w.alloc o) := ⟨rfl, rfl, rfl, by simp, fun k hk _ => Below.heap_alloc w o k hk⟩
theorem Only.drew (S : Nat → Prop) (w : World) : Only S w w.drew := ⟨rfl, rfl, rfl, Nat.le_refl _, fun _ _ _ => rfl⟩
theorem Only.drewN (S : Nat → Prop) (w : World) (n : Nat) : Only S w (w.drewN n) := ⟨rfl, rfl, rfl, Nat.le_refl _, fun _ _ _ => rfl⟩
theorem Only.setCell {S : Nat → Prop} (w : World) (a : Addr) (v : Value) (h : S a.block) : Only S w (w.setCell a v) :=
  ⟨rfl, rfl, rfl, by simp, fun k _ hn => heap_setCell_other w a k v (fun e => hn (e ▸ h))⟩
theorem Only.setRow {S : Nat → Prop} (w : World) (g : Nat) (cs : Array Value) (h : S g) : Only S w (w.setRow g cs) :=
  ⟨rfl, rfl, rfl, by simp, fun k _ hn => setRow_other w g k cs (fun e => hn (e ▸ h))⟩
theorem Only.grown {S : Nat → Prop} {w w' : World} {row : Option Nat} (h : w.grownBy w' row) (hs : ∀ k, row = some k → S k) : Only S w w' :=
  ⟨h.os, h.tape, h.output, h.size, fun k hk hn => h.block k hk (fun e => hn (hs k e.symm))⟩
theorem Only.below {S : Nat → Prop} {w w' : World} (h : Only S w w') {B : Nat} (hB : B ≤ w.heap.size) (hs : ∀ k, S k → B ≤ k) : Below B w w' :=
  ⟨h.os, h.tape, h.output, h.size, fun k hk => h.block k (by omega) (fun x => by have := hs k x; omega)⟩
theorem Only.of_below {w w' : World} {B : Nat} (h : Below B w w') {S : Nat → Prop} (hs : ∀ k, k < w.heap.size → B ≤ k → S k) : Only S w w' :=
  ⟨h.os, h.tape, h.output, h.size, fun k hk hn => h.block k (by rcases Nat.lt_or_ge k B with h1 | h1; exact h1; exact absurd (hs k hk h1) hn)⟩

theorem Only.cell {S : Nat → Prop} {w w' : World} (h : Only S w w') {a : Addr} (hl : a.block < w.heap.size) (hn : ¬ S a.block) : w'.cell? a = w.cell? a := World.cell?_of_block (h.block _ hl hn)
theorem Only.frozen {S : Nat → Prop} {w w' : World} (h : Only S w w') {a : Addr} (hl : a.block < w.heap.size) (hn : ¬ S a.block) : w'.frozen? a = w.frozen? a := World.frozen?_of_block (h.block _ hl hn)

theorem lt_of_heap {w : World} {b : Nat} {o : Obj} (h : w.heap[b]? = some o) : b < w.heap.size := (Array.getElem?_eq_some_iff.1 h).1

/-- Bytes as cells. -/
def cellsB (l : List UInt8) : List Value := l.map fun c => .int .u8 c.toNat
@[simp] theorem length_cellsB (l : List UInt8) : (cellsB l).length = l.length := by simp [cellsB]
theorem cellsB_append (a b : List UInt8) : cellsB (a ++ b) = cellsB a ++ cellsB b := by simp [cellsB]
theorem cellsB_one (l : List UInt8) : ∀ u ∈ cellsB l, u.oneCell' = true := by
  intro u hu
  simp only [cellsB, List.mem_map] at hu
  obtain ⟨c, _, rfl⟩ := hu
  rfl

/-- v is a slice with the bytes l, all that its block holds being the call's own. -/
def Row (w : World) (v : Value) (l : List UInt8) : Prop := w.ownsRow 0 5 1 v l.length (cellsB l)

theorem Row.lt {w : World} {v : Value} {l : List UInt8} (h : Row w v l) {k : Nat} (hk : Blk v k) : k < w.heap.size := (World.ownsRow.lt h k hk).2

theorem Row.other {S : Nat → Prop} {w w' : World} {v : Value} {l : List UInt8} (h : Row w v l) (ho : Only S w w') (hn : ∀ k, Blk v k → ¬ S k) : Row w' v l := by
  refine ⟨h.1, ?_⟩
  rcases h.2 with h2 | ⟨g, cap, cur, rfl, hb, hg, r⟩
  · exact .inl h2
  · exact .inr ⟨g, cap, cur, rfl, hb, (ho.block g (lt_of_heap hg) (hn g rfl)).trans hg, r⟩

/-- v is a slice at the head of a block whose first cells are the bytes l: it is only read. -/
def Src (w : World) (v : Value) (l : List UInt8) : Prop :=
  ∃ g cap cur e fz, v = .slice (some ⟨g, 0, none⟩) l.length cap ∧ w.heap[g]? = some (.cells cur e fz) ∧ cur.toList.take l.length = cellsB l

theorem Src.other {S : Nat → Prop} {w w' : World} {v : Value} {l : List UInt8} (h : Src w v l) (ho : Only S w w') (hn : ∀ k, Blk v k → ¬ S k) : Src w' v l := by
  obtain ⟨g, cap, cur, e, fz, rfl, hg, r⟩ := h
  exact ⟨g, cap, cur, e, fz, rfl, (ho.block g (lt_of_heap hg) (hn g rfl)).trans hg, r⟩

theorem Src.lt {w : World} {v : Value} {l : List UInt8} (h : Src w v l) {k : Nat} (hk : Blk v k) : k < w.heap.size := by
  obtain ⟨g, cap, cur, e, fz, rfl, hg, r⟩ := h
  simp [Blk, Value.ownBlock] at hk
  subst hk
  exact lt_of_heap hg

theorem addr_add0 (g j : Nat) : (⟨g, 0, none⟩ : Addr).add j = ⟨g, j, none⟩ := by unfold Addr.add; split <;> simp_all

theorem Src.cells {w : World} {g cap len : Nat} {l : List UInt8} (h : Src w (.slice (some ⟨g, 0, none⟩) len cap) l) : len = l.length ∧ ∀ j u, (cellsB l)[j]? = some u → w.cell? ((⟨g, 0, none⟩ : Addr).add j) = some u := by
  obtain ⟨g', cap', cur, e, fz, hv, hg, r⟩ := h
  simp only [Value.slice.injEq, Option.some.injEq, Addr.mk.injEq] at hv
  obtain ⟨⟨rfl, _, _⟩, hlen, rfl⟩ := hv
  refine ⟨hlen, fun j u hu => ?_⟩
  rw [addr_add0, cell_of_row w g j cur e fz hg]
  rw [← r, List.getElem?_take] at hu
  split at hu
  · simpa using hu
  · cases hu

theorem Row.src {w : World} {v : Value} {l : List UInt8} (h : Row w v l) (hne : v ≠ .slice none 0 0) : Src w v l := by
  rcases h.2 with ⟨h2, _⟩ | ⟨g, cap, cur, rfl, _, hg, _, _, _, ht⟩
  · exact absurd h2 hne
  · exact ⟨g, cap, cur, 5, (0, 0), rfl, hg, by simpa using ht⟩

theorem cellsB_replicate (n : Nat) : cellsB (List.replicate n 0) = List.replicate n (.int .u8 0) := by simp [cellsB]

/-- A number that fits a machine's int. -/
def Rng (x : Int) : Prop := -9223372036854775808 ≤ x ∧ x ≤ 9223372036854775807
theorem rng_nat {n : Nat} (h : n ≤ 9223372036854775807) : Rng (n : Int) := ⟨by omega, by omega⟩
theorem rng_small {n : Int} (h0 : -1000000000000 ≤ n) (h1 : n ≤ 1000000000000) : Rng n := ⟨by omega, by omega⟩

/-- A string of bytes as a value. -/
def SV (r : List UInt8) : Value := .string ⟨r.toArray⟩

theorem str_eq {s t : ByteArray} (h : s.data.toList = t.data.toList) : s = t := by
  cases s; cases t; congr; exact Array.toList_inj.1 h
theorem SV_of (s : ByteArray) : SV s.data.toList = .string s := congrArg Value.string (str_eq rfl)

theorem only_of_below {n₀ : Nat} {w w' : World} (h : Below n₀ w w') : Only (fun k => n₀ ≤ k) w w' := Only.of_below h (fun _ _ h => h)
theorem grown_of_only {w w' : World} (h : Only Nob w w') : w.grownBy w' none := ⟨h.os, h.tape, h.output, h.size, fun k hk _ => h.block k hk (fun x => x)⟩
theorem nob_of_below {w w' : World} (h : Below w.heap.size w w') : Only Nob w w' := Only.of_below h (fun k h1 h2 => absurd h1 (by omega))
theorem below_of_nob {w w' : World} (h : Only Nob w w') : Below w.heap.size w w' := h.below (Nat.le_refl _) (fun _ h => h.elim)
theorem Only.nob {w w1 w2 : World} (h : Only Nob w w1) (k : Only Nob w1 w2) : Only Nob w w2 := h.trans k (fun _ _ h => h)

end Go.Proofs.YtddjbfmohibgbaaDoor

/- The classes of bytes: the program's functions and the reference's. -/
namespace Go.Proofs.YtddjbfmohibgbaaDoor
open Go.RowKit

theorem ret_int {k : IntKind} {a b : Int} (h : a = b) : Ending.returned (.int k a) = .returned (.int k b) := by rw [h]
theorem ret_bool {a b : Bool} (h : a = b) : Ending.returned (.bool a) = .returned (.bool b) := by rw [h]

set_option maxHeartbeats 1000000 in
theorem class_n (n : Nat) (w : World) (_h : n < 256) : Calls Tryd.prog 30 #[.int .u8 n] w fun e w' => e = .returned (.int .i64 (clsN n)) ∧ w = w' := by
  go_enter Tryd.func30, Tryd.ntmps30
  go_wp2
  all_goals
    go_ret
    refine ⟨ret_int ?_, rfl⟩
    try simp at *
    unfold clsN
    repeat' split
    all_goals omega

set_option maxHeartbeats 1000000 in
theorem rclass_n (n : Nat) (w : World) (_h : n < 256) : Calls Tryd.prog 31 #[.int .u8 n] w fun e w' => e = .returned (.int .i64 (clsN n)) ∧ w = w' := by
  go_enter Tryd.func31, Tryd.ntmps31
  go_wp2
  all_goals
    go_ret
    refine ⟨ret_int ?_, rfl⟩
    try simp at *
    unfold clsN
    repeat' split
    all_goals omega

set_option maxHeartbeats 1000000 in
theorem contained_any (a k : Int) (w : World) : Calls Tryd.prog 113 #[.int .i64 a, .int .i64 k] w fun e w' => e = .returned (.bool (cin a k)) ∧ w = w' := by
  go_enter Tryd.func113, Tryd.ntmps113
  go_wp2
  all_goals
    go_ret
    refine ⟨ret_bool ?_, rfl⟩
    rw [Bool.eq_iff_iff]
    simp [cin] at *
    try omega

set_option maxHeartbeats 1000000 in
/-- The reference's: of a class that is one. -/
theorem rcontained_any (a k : Int) (w : World) (_h : 0 < a) : Calls Tryd.prog 71 #[.int .i64 a, .int .i64 k] w fun e w' => e = .returned (.bool (cin a k)) ∧ w = w' := by
  go_enter Tryd.func71, Tryd.ntmps71
  go_wp2
  all_goals
    go_ret
    refine ⟨ret_bool ?_, rfl⟩
    rw [Bool.eq_iff_iff]
    simp [cin] at *
    try omega

theorem class_any (c : UInt8) (w : World) : Calls Tryd.prog 30 #[.int .u8 c.toNat] w fun e w' => e = .returned (.int .i64 (cls c)) ∧ w = w' := class_n _ w c.toNat_lt
theorem rclass_any (c : UInt8) (w : World) : Calls Tryd.prog 31 #[.int .u8 c.toNat] w fun e w' => e = .returned (.int .i64 (cls c)) ∧ w = w' := rclass_n _ w c.toNat_lt

theorem belongs_any (c : UInt8) (k : Int) (w : World) : Calls Tryd.prog 111 #[.int .u8 c.toNat, .int .i64 k] w fun e w' => e = .returned (.bool (cin (cls c) k)) ∧ w = w' := by
  have hb := (cls_rng c).1
  by_cases h : 0 < cls c
  · go_enter Tryd.func111, Tryd.ntmps111
    go_wp2_with (first | (go_at_call 31; refine (rclass_any _ _).mono ?_; rintro e w' ⟨rfl, rfl⟩) | (go_at_call 71; refine (rcontained_any _ _ _ h).mono ?_; rintro e w' ⟨rfl, rfl⟩))
    go_ret
    exact ⟨rfl, rfl⟩
  · have hz : cls c = 0 := by omega
    have hc : cin (cls c) k = false := by rw [hz]; rfl
    rw [hc]
    have R := Lib.hid (rclass_any c)
    rw [hz] at R
    clear h hb hz hc
    go_enter Tryd.func111, Tryd.ntmps111
    go_wp2_with (first | (go_at_call 31; refine (R.out _).mono ?_; rintro e w' ⟨rfl, rfl⟩))
    go_ret
    exact ⟨rfl, rfl⟩

end Go.Proofs.YtddjbfmohibgbaaDoor

/- Whether all bytes of a string lie in a class; whether a string is a text. -/
namespace Go.Proofs.YtddjbfmohibgbaaDoor
open Go.RowKit

theorem run_bytes (w : World) (s : ByteArray) : (convert 9 41 (.string s)).run Tryd.prog w = .ok (.slice (some ⟨w.heap.size, 0, none⟩) s.size (grownCap w s.size 0 5)) (Lib.bytesWorld w 5 s) :=
  Lib.run_convert_string_bytes w 9 41 5 s Tryd.underlying9 Tryd.underlying41 Tryd.underlying5

theorem bytesWorld_only (w : World) (s : ByteArray) : Only Nob w (Lib.bytesWorld w 5 s) := by
  refine ⟨?_, ?_, ?_, ?_, fun k hk _ => Lib.bytesWorld_at_old w 5 s k hk⟩
  · simp [Lib.bytesWorld, World.freeze, World.alloc, World.drew, -World.alloc_eq, -World.drew_eq]
  · simp [Lib.bytesWorld, World.freeze, World.alloc, World.drew, -World.alloc_eq, -World.drew_eq]
  · simp [Lib.bytesWorld, World.freeze, World.alloc, World.drew, -World.alloc_eq, -World.drew_eq]
  · rw [Lib.bytesWorld_size]; omega

theorem getD_lt {α : Type} (l : List α) {j : Nat} (h : j < l.length) {d : α} : l.getD j d = l[j] := by
  rw [List.getD_eq_getElem?_getD, List.getElem?_eq_getElem h]
  rfl

/-- What a function says that leaves the world but for new blocks. -/
def BoolPost (b : Bool) (w : World) (e : Ending) (w' : World) : Prop := e = .returned (.bool b) ∧ Only Nob w w'

set_option maxHeartbeats 1000000 in
theorem all_any (s : ByteArray) (k : Int) (w : World) (hs : s.size ≤ 9223372036854775807) : Calls Tryd.prog 99 #[.string s, .int .i64 k] w (BoolPost (allB s.data.toList k) w) := by
  have hb := run_bytes w s
  have hO := Lib.hid (bytesWorld_only w s)
  have hc := Lib.bytesWorld_cell w 5 s
  have HC := Lib.hid hc
  clear hc
  generalize Lib.bytesWorld w 5 s = w1 at hb hO HC
  go_enter Tryd.func99, Tryd.ntmps99
  go_wp2_with fail
  go_loop [10] (fun i => ∃ j : Nat, j ≤ s.size ∧ i = .int .i64 j ∧ allB (s.data.toList.take j) k = true) (fun i => s.size - (intOf i).toNat)
  case atStart => exact ⟨0, Nat.zero_le _, rfl, rfl⟩
  case round =>
    obtain ⟨j, hj, rfl, hall⟩ := hrel
    have HA := Lib.hid hall
    clear hall
    clear hb
    by_cases hlt : j < s.size
    · have hl : j < s.data.toList.length := by simpa using hlt
      have hcell := HC.out j hlt
      rw [getD_lt _ hl] at hcell
      have ht := Lib.hid (allB_take_succ s.data.toList j hl k)
      have hf := Lib.hid (fun h => allB_false (g := k) hl h)
      generalize s.data.toList[j] = c at hcell ht hf
      cases hcc : cin (cls c) k
      · have R := Lib.hid (show ∀ w, Calls Tryd.prog 113 #[.int .i64 (cls c), .int .i64 k] w fun e w' => e = .returned (.bool false) ∧ w = w' from fun w => by have := contained_any (cls c) k w; rw [hcc] at this; exact this)
        have HF := Lib.hid (hf.out hcc)
        clear hcc ht hf HA
        go_wp2_with (first | (go_at_call 30; refine (class_any _ _).mono ?_; rintro e w' ⟨rfl, rfl⟩) | (go_at_call 113; refine (R.out _).mono ?_; rintro e w' ⟨rfl, rfl⟩))
        go_ret
        exact ⟨ret_bool HF.out.symm, hO.out⟩
      · have R := Lib.hid (show ∀ w, Calls Tryd.prog 113 #[.int .i64 (cls c), .int .i64 k] w fun e w' => e = .returned (.bool true) ∧ w = w' from fun w => by have := contained_any (cls c) k w; rw [hcc] at this; exact this)
        have HT : Hid (allB (s.data.toList.take (j + 1)) k = true) := by
          have h := ht.out
          rw [HA.out, hcc] at h
          exact h
        clear hcc ht hf HA
        go_wp2_with (first | (go_at_call 30; refine (class_any _ _).mono ?_; rintro e w' ⟨rfl, rfl⟩) | (go_at_call 113; refine (R.out _).mono ?_; rintro e w' ⟨rfl, rfl⟩))
        go_round
        case rel => exact ⟨j + 1, by omega, by go_num, HT.out⟩
        case measure => simp [intOf]; omega
    · go_wp2
      go_ret
      have h := HA.out
      rw [List.take_of_length_le (by simp; omega)] at h
      exact ⟨ret_bool h.symm, hO.out⟩

set_option maxHeartbeats 1000000 in
theorem rall_any (s : ByteArray) (k : Int) (w : World) (hs : s.size ≤ 9223372036854775807) : Calls Tryd.prog 70 #[.string s, .int .i64 k] w fun e w' => e = .returned (.bool (allB s.data.toList k)) ∧ w = w' := by
  go_enter Tryd.func70, Tryd.ntmps70
  go_wp2_with fail
  go_loop [5] (fun i => ∃ j : Nat, j ≤ s.size ∧ i = .int .i64 j ∧ allB (s.data.toList.take j) k = true) (fun i => s.size - (intOf i).toNat)
  case atStart => exact ⟨0, Nat.zero_le _, rfl, rfl⟩
  case round =>
    obtain ⟨j, hj, rfl, hall⟩ := hrel
    have HA := Lib.hid hall
    clear hall
    by_cases hlt : j < s.size
    · have hl : j < s.data.toList.length := by simpa using hlt
      have ht := Lib.hid (allB_take_succ s.data.toList j hl k)
      have hf := Lib.hid (fun h => allB_false (g := k) hl h)
      cases hcc : cin (cls s.data.toList[j]) k
      · have R := Lib.hid (show ∀ w, Calls Tryd.prog 111 #[.int .u8 (s[j].toNat : Int), .int .i64 k] w fun e w' => e = .returned (.bool false) ∧ w = w' from fun w => by have := belongs_any s.data.toList[j] k w; rw [hcc] at this; exact this)
        have HF := Lib.hid (hf.out hcc)
        clear hcc ht hf HA
        go_wp2_with (first | (go_at_call 111; refine (R.out _).mono ?_; rintro e w' ⟨rfl, rfl⟩))
        go_ret
        exact ⟨ret_bool HF.out.symm, rfl⟩
      · have R := Lib.hid (show ∀ w, Calls Tryd.prog 111 #[.int .u8 (s[j].toNat : Int), .int .i64 k] w fun e w' => e = .returned (.bool true) ∧ w = w' from fun w => by have := belongs_any s.data.toList[j] k w; rw [hcc] at this; exact this)
        have HT : Hid (allB (s.data.toList.take (j + 1)) k = true) := by
          have h := ht.out
          rw [HA.out, hcc] at h
          exact h
        clear hcc ht hf HA
        go_wp2_with (first | (go_at_call 111; refine (R.out _).mono ?_; rintro e w' ⟨rfl, rfl⟩))
        go_round
        case rel => exact ⟨j + 1, by omega, by go_num, HT.out⟩
        case measure => simp [intOf]; omega
    · go_wp2
      go_ret
      have h := HA.out
      rw [List.take_of_length_le (by simp; omega)] at h
      exact ⟨ret_bool h.symm, rfl⟩

theorem text_any (s : ByteArray) (w : World) (hs : s.size ≤ 9223372036854775807) : Calls Tryd.prog 63 #[.string s] w (BoolPost (textB s.data.toList) w) := by
  by_cases h : s.size ≤ 200
  · have e : textB s.data.toList = allB s.data.toList 7 := by unfold textB; simp [h]
    have R := Lib.hid (fun w => all_any s 7 w hs)
    rw [e]
    clear e
    go_enter Tryd.func63, Tryd.ntmps63
    go_wp2_with (go_at_call 99; refine (R.out _).mono ?_; rintro e w' ⟨rfl, o1⟩)
    go_ret
    exact ⟨rfl, o1⟩
  · have e : textB s.data.toList = false := by unfold textB; simp [h]
    rw [e]
    clear e
    go_enter Tryd.func63, Tryd.ntmps63
    go_wp2_with fail
    go_ret
    exact ⟨rfl, Only.refl _ _⟩

theorem rtext_any (s : ByteArray) (w : World) (hs : s.size ≤ 9223372036854775807) : Calls Tryd.prog 36 #[.string s] w fun e w' => e = .returned (.bool (textB s.data.toList)) ∧ w = w' := by
  by_cases h : s.size ≤ 200
  · have e : textB s.data.toList = allB s.data.toList 7 := by unfold textB; simp [h]
    have R := Lib.hid (fun w => rall_any s 7 w hs)
    rw [e]
    clear e
    go_enter Tryd.func36, Tryd.ntmps36
    go_wp2_with (go_at_call 70; refine (R.out _).mono ?_; rintro e w' ⟨rfl, rfl⟩)
    go_ret
    exact ⟨rfl, rfl⟩
  · have e : textB s.data.toList = false := by unfold textB; simp [h]
    rw [e]
    clear e
    go_enter Tryd.func36, Tryd.ntmps36
    go_wp2_with fail
    go_ret
    exact ⟨rfl, rfl⟩

end Go.Proofs.YtddjbfmohibgbaaDoor

/- Appends to rows of a call's own: where the row lies afterwards. No program is looked at. -/
namespace Go.Proofs.YtddjbfmohibgbaaDoor
open Go.RowKit

theorem own_form {w : World} {e : TypeId} {size : Nat} {v : Value} {n : Nat} {xs : List Value} (h : w.ownsRow 0 e size v n xs) : ∃ ao cap, v = .slice ao n cap ∧ n ≤ cap := by
  rcases h.2 with ⟨rfl, rfl⟩ | ⟨g, cap, cur, rfl, _, _, hle, _⟩
  · exact ⟨none, 0, rfl, Nat.le_refl _⟩
  · exact ⟨_, _, rfl, hle⟩

theorem own_form_pos {w : World} {e : TypeId} {size : Nat} {v : Value} {n : Nat} {xs : List Value} (h : w.ownsRow 0 e size v n xs) (hn : 0 < n) : ∃ g cap, v = .slice (some ⟨g, 0, none⟩) n cap ∧ n ≤ cap ∧ g < w.heap.size := by
  rcases h.2 with ⟨rfl, rfl⟩ | ⟨g, cap, cur, rfl, _, hg, hle, _⟩
  · omega
  · exact ⟨g, cap, rfl, hle, (Array.getElem?_eq_some_iff.1 hg).1⟩

/-- append of a slice to a row of the call's own: the row is where it was, or in a new block. -/
theorem run_append_own_f {P : Program} (w : World) (t ty e : TypeId) (i : TypeInfo) (z : Value) (size bytes : Nat) (ht : P.underlying t = some (.slice e)) (hi : P.info? e = some i) (hz : i.zero = some z)
    (hsize : i.size = size) (hby : i.bytes = bytes) (hzs : z.cells.size = size) (hsz : 0 < size)
    (v : Value) (n : Nat) (xs : List Value) (hown : w.ownsRow 0 e size v n xs)
    (a : Addr) (m c : Nat) (news : List Value) (hl : news.length = m * size) (hnews : ∀ j u, news[j]? = some u → w.cell? (a.add j) = some u) (h1 : ∀ u ∈ news, u.oneCell' = true)
    (h63 : n + m ≤ maxLen) (hbytes : (n + m) * bytes ≤ 140737488355328) :
    ∃ v' w', (Builtin.append_ #[t, t] ty #[v, .slice (some a) m c]).run P w = .ok v' w' ∧ w'.ownsRow 0 e size v' (n + m) (xs ++ news) ∧ w.grownBy w' v.ownBlock ∧
      (∀ k, v'.ownBlock = some k → v.ownBlock = some k ∨ w.heap.size ≤ k) ∧ (v' = .slice none 0 0 ↔ v = .slice none 0 0 ∧ m = 0) := by
  obtain ⟨v', w', hr, r1, r2, r3⟩ := run_append_own (P := P) w 0 t ty e i z size bytes ht hi hz hsize hby hzs hsz v n xs hown a m c news hl hnews h1 h63 hbytes (Nat.zero_le _)
  refine ⟨v', w', hr, r1, r2, ?_, r3⟩
  subst hsize
  subst hby
  have hsmall : ((n + m : Nat) : Int) ≤ 9223372036854775807 := by simp only [maxLen] at h63; omega
  rcases hown.2 with ⟨rfl, rfl⟩ | ⟨g, cap, cur, rfl, _, hg, hnc, hcm, hcs, htake⟩
  · by_cases hm : m = 0
    · rw [r3.2 ⟨rfl, hm⟩]
      intro k hk
      simp [Value.ownBlock] at hk
    · have hr2 := run_append_nil (P := P) w t ty e i z ht hi hz a m c news hl hnews (by omega) (by omega) (by have hb := hbytes; simp only [Nat.zero_add] at hb; omega)
      rw [hr] at hr2
      simp only [Result.ok.injEq] at hr2
      rw [hr2.1]
      intro k hk
      simp [Value.ownBlock] at hk
      omega
  · by_cases hroom : n + m ≤ cap
    · have hfit : n * i.size + news.length ≤ cur.size := by rw [hl, hcs, ← Nat.add_mul]; exact Nat.mul_le_mul_right _ hroom
      have hr2 := run_append_room (P := P) w t ty e i ht hi g n cap cur hg a m c news hl hnews h1 hroom hfit
      rw [hr] at hr2
      simp only [Result.ok.injEq] at hr2
      rw [hr2.1]
      exact fun k hk => .inl hk
    · have hr2 := run_append_grow (P := P) w t ty e i z ht hi hz ⟨g, 0, none⟩ n cap xs hown.1 (hown.cells (g := g) rfl) a m c news hl hnews (by omega) hsmall (growslice_fits (by omega) hbytes)
      rw [hr] at hr2
      simp only [Result.ok.injEq] at hr2
      rw [hr2.1]
      intro k hk
      simp [Value.ownBlock] at hk
      omega

theorem wp_append_own_f {P : Program} {o : Oper} {a : Act} {w : World} {K : Act → World → Prop} {Q : Exit → Act → World → Prop} (s x : Operand) (t : TypeId)
    (ho : o.op = .call { callee := .builtin .append, args := #[s, x], argTypes := #[t, t] })
    (e : TypeId) (i : TypeInfo) (z : Value) (size bytes : Nat) (ht : P.underlying t = some (.slice e)) (hi : P.info? e = some i) (hz : i.zero = some z)
    (hsize : i.size = size) (hby : i.bytes = bytes) (hzs : z.cells.size = size) (hsz : 0 < size)
    (v : Value) (n : Nat) (xs : List Value) (hs : a.eval s = v) (hown : w.ownsRow 0 e size v n xs)
    (ad : Addr) (m c : Nat) (news : List Value) (hx : a.eval x = .slice (some ad) m c) (hl : news.length = m * size) (hnews : ∀ j u, news[j]? = some u → w.cell? (ad.add j) = some u) (h1 : ∀ u ∈ news, u.oneCell' = true)
    (h63 : n + m ≤ maxLen) (hbytes : (n + m) * bytes ≤ 140737488355328)
    (h : ∀ v' w', w'.ownsRow 0 e size v' (n + m) (xs ++ news) → w.grownBy w' v.ownBlock → (∀ k, v'.ownBlock = some k → v.ownBlock = some k ∨ w.heap.size ≤ k) → (v' = .slice none 0 0 ↔ v = .slice none 0 0 ∧ m = 0) → K (a.put o.dst v') w') : o.wp P a w K Q := by
  obtain ⟨v', w', hr, h2, h3, h4, h5⟩ := run_append_own_f (P := P) w t o.type e i z size bytes ht hi hz hsize hby hzs hsz v n xs hown ad m c news hl hnews h1 h63 hbytes
  exact Lib.wp_append_run w s x t t ho _ _ hs hx v' w' hr (h v' w' h2 h3 h4 h5)

/-- An append as one operation of a list. -/
theorem wpList_append_own_f {P : Program} {ops : Array Oper} {rest : List Oper} {o : Oper} {a : Act} {w : World} {Q : Exit → Act → World → Prop} (hgd : o.guard = none) (s x : Operand) (t : TypeId)
    (ho : o.op = .call { callee := .builtin .append, args := #[s, x], argTypes := #[t, t] })
    (e : TypeId) (i : TypeInfo) (z : Value) (size bytes : Nat) (ht : P.underlying t = some (.slice e)) (hi : P.info? e = some i) (hz : i.zero = some z)
    (hsize : i.size = size) (hby : i.bytes = bytes) (hzs : z.cells.size = size) (hsz : 0 < size)
    (v : Value) (n : Nat) (xs : List Value) (hs : a.eval s = v) (hown : w.ownsRow 0 e size v n xs)
    (ad : Addr) (m c : Nat) (news : List Value) (hx : a.eval x = .slice (some ad) m c) (hl : news.length = m * size) (hnews : ∀ j u, news[j]? = some u → w.cell? (ad.add j) = some u) (h1 : ∀ u ∈ news, u.oneCell' = true)
    (h63 : n + m ≤ maxLen) (hbytes : (n + m) * bytes ≤ 140737488355328)
    (h : ∀ v' w', w'.ownsRow 0 e size v' (n + m) (xs ++ news) → w.grownBy w' v.ownBlock → (∀ k, v'.ownBlock = some k → v.ownBlock = some k ∨ w.heap.size ≤ k) → (v' = .slice none 0 0 ↔ v = .slice none 0 0 ∧ m = 0) → wpList P ops Q rest (a.put o.dst v') w') : wpList P ops Q (o :: rest) a w :=
  wpList_plain hgd fun _ hK => wp_append_own_f s x t ho e i z size bytes ht hi hz hsize hby hzs hsz v n xs hs hown ad m c news hx hl hnews h1 h63 hbytes fun v' w' h2 h3 h4 h5 => hK _ _ (h v' w' h2 h3 h4 h5)

/-- An append as one step of a region that draws its order. -/
theorem step_append_own_f {P : Program} {ops : Array Oper} {o : Oper} {a : Act} {w : World} {K : Act → World → Prop} {Q : Exit → Act → World → Prop} {E : Prop} (hgd : o.guard = none) (s x : Operand) (t : TypeId)
    (ho : o.op = .call { callee := .builtin .append, args := #[s, x], argTypes := #[t, t] })
    (e : TypeId) (i : TypeInfo) (z : Value) (size bytes : Nat) (ht : P.underlying t = some (.slice e)) (hi : P.info? e = some i) (hz : i.zero = some z)
    (hsize : i.size = size) (hby : i.bytes = bytes) (hzs : z.cells.size = size) (hsz : 0 < size)
    (v : Value) (n : Nat) (xs : List Value) (hs : a.eval s = v) (hown : w.ownsRow 0 e size v n xs)
    (ad : Addr) (m c : Nat) (news : List Value) (hx : a.eval x = .slice (some ad) m c) (hl : news.length = m * size) (hnews : ∀ j u, news[j]? = some u → w.cell? (ad.add j) = some u) (h1 : ∀ u ∈ news, u.oneCell' = true)
    (h63 : n + m ≤ maxLen) (hbytes : (n + m) * bytes ≤ 140737488355328)
    (h : ∀ v' w', w'.ownsRow 0 e size v' (n + m) (xs ++ news) → w.grownBy w' v.ownBlock → (∀ k, v'.ownBlock = some k → v.ownBlock = some k ∨ w.heap.size ≤ k) → (v' = .slice none 0 0 ↔ v = .slice none 0 0 ∧ m = 0) → K (a.put o.dst v') w') :
    if Region.wanted o (yielded ops a.tmps) = true then Oper.wp P o a w K Q else E := by
  have hw : Region.wanted o (yielded ops a.tmps) = true := by simp [Region.wanted, hgd]
  rw [if_pos hw]
  exact wp_append_own_f s x t ho e i z size bytes ht hi hz hsize hby hzs hsz v n xs hs hown ad m c news hx hl hnews h1 h63 hbytes h


/-- append of a string's bytes to a row of the call's own: the row is where it was, or in a new block. -/
theorem run_append_own_string_f {P : Program} (w : World) (t u ty e : TypeId) (i : TypeInfo) (ht : P.underlying t = some (.slice e)) (hu : P.underlying u = some .string) (hi : P.info? e = some i) (hz : i.zero = some (.int .u8 0))
    (hsize : i.size = 1) (hby : i.bytes = 1) (v : Value) (n : Nat) (xs : List Value) (hown : w.ownsRow 0 e 1 v n xs) (s : ByteArray) (h63 : n + s.size ≤ maxLen) (hbytes : n + s.size ≤ 140737488355328) :
    ∃ v' w', (Builtin.append_ #[t, u] ty #[v, .string s]).run P w = .ok v' w' ∧ w'.ownsRow 0 e 1 v' (n + s.size) (xs ++ Lib.strCells s) ∧ w.grownBy w' v.ownBlock ∧
      (∀ k, v'.ownBlock = some k → v.ownBlock = some k ∨ w.heap.size ≤ k) ∧ (v' = .slice none 0 0 ↔ v = .slice none 0 0 ∧ s.size = 0) := by
  obtain ⟨v', w', hr, r1, r2, r3⟩ := Lib.run_append_own_string (P := P) (w := w) 0 t u ty e i ht hu hi hz hsize hby v n xs hown s h63 hbytes (Nat.zero_le _)
  refine ⟨v', w', hr, r1, r2, ?_, r3⟩
  have hsmall : ((n + s.size : Nat) : Int) ≤ 9223372036854775807 := by simp only [maxLen] at h63; omega
  rcases hown.2 with ⟨rfl, rfl⟩ | ⟨g, cap, cur, rfl, _, hg, hnc, hcm, hcs, htake⟩
  · by_cases hm : s.size = 0
    · rw [r3.2 ⟨rfl, hm⟩]
      intro k hk
      simp [Value.ownBlock] at hk
    · have hr2 := run_append_nil_string (P := P) w t u ty e i (.int .u8 0) ht hu hi hz s (by omega) (by omega) (by rw [hby]; omega)
      rw [hr] at hr2
      simp only [Result.ok.injEq] at hr2
      rw [hr2.1]
      intro k hk
      simp [Value.ownBlock] at hk
      omega
  · by_cases hroom : n + s.size ≤ cap
    · have hr2 := Lib.run_append_room_string (P := P) (w := w) t u ty e i ht hu hi hsize g n cap cur hg s hroom (by omega)
      rw [hr] at hr2
      simp only [Result.ok.injEq] at hr2
      rw [hr2.1]
      exact fun k hk => .inl hk
    · have hxl : xs.length = n := by simpa using hown.1
      have hr2 := Lib.run_append_grow_string (P := P) (w := w) t u ty e i (.int .u8 0) ht hu hi hz ⟨g, 0, none⟩ n cap xs (by rw [hsize]; simpa using hxl) (hown.cells (g := g) rfl) s (by omega) hsmall (by rw [hby]; exact growslice_fits (by omega) (by omega))
      rw [hr] at hr2
      simp only [Result.ok.injEq] at hr2
      rw [hr2.1]
      intro k hk
      simp [Value.ownBlock] at hk
      omega

theorem wpList_append_own_string_f {P : Program} {ops : Array Oper} {rest : List Oper} {o : Oper} {a : Act} {w : World} {Q : Exit → Act → World → Prop} (hgd : o.guard = none) (sl x : Operand) (t u : TypeId)
    (ho : o.op = .call { callee := .builtin .append, args := #[sl, x], argTypes := #[t, u] })
    (e : TypeId) (i : TypeInfo) (ht : P.underlying t = some (.slice e)) (hu : P.underlying u = some .string) (hi : P.info? e = some i) (hz : i.zero = some (.int .u8 0)) (hsize : i.size = 1) (hby : i.bytes = 1)
    (v : Value) (n : Nat) (xs : List Value) (hs : a.eval sl = v) (hown : w.ownsRow 0 e 1 v n xs) (s : ByteArray) (hx : a.eval x = .string s) (h63 : n + s.size ≤ maxLen) (hbytes : n + s.size ≤ 140737488355328)
    (h : ∀ v' w', w'.ownsRow 0 e 1 v' (n + s.size) (xs ++ Lib.strCells s) → w.grownBy w' v.ownBlock → (∀ k, v'.ownBlock = some k → v.ownBlock = some k ∨ w.heap.size ≤ k) → wpList P ops Q rest (a.put o.dst v') w') : wpList P ops Q (o :: rest) a w := by
  obtain ⟨v', w', hr, h2, h3, h4, _⟩ := run_append_own_string_f (P := P) w t u o.type e i ht hu hi hz hsize hby v n xs hown s h63 hbytes
  exact wpList_plain hgd fun _ hK => Lib.wp_append_run w sl x t u ho _ _ hs hx v' w' hr (hK _ _ (h v' w' h2 h3 h4))

/-- A row of the call's own stands where only other blocks change. -/
theorem Own.other {S : Nat → Prop} {w w' : World} {e : TypeId} {size n : Nat} {v : Value} {xs : List Value} (h : w.ownsRow 0 e size v n xs) (ho : Only S w w') (hn : ∀ k, Blk v k → ¬ S k) : w'.ownsRow 0 e size v n xs := by
  refine ⟨h.1, ?_⟩
  rcases h.2 with h2 | ⟨g, cap, cur, rfl, hb, hg, r⟩
  · exact .inl h2
  · exact .inr ⟨g, cap, cur, rfl, hb, (ho.block g (lt_of_heap hg) (hn g rfl)).trans hg, r⟩
theorem Own.lt {w : World} {e : TypeId} {size n : Nat} {v : Value} {xs : List Value} (h : w.ownsRow 0 e size v n xs) {k : Nat} (hk : Blk v k) : k < w.heap.size := (World.ownsRow.lt h k hk).2

end Go.Proofs.YtddjbfmohibgbaaDoor

/- Slices of integers that came in. -/
namespace Go.Proofs.YtddjbfmohibgbaaDoor
open Go.RowKit

/-- v is a slice that reads as the integers l. -/
def IntsA (w : World) (v : Value) (l : List Int) : Prop :=
  l.length ≤ 9223372036854775807 ∧ (∀ x ∈ l, Rng x) ∧ ((l = [] ∧ ∃ ao cap, v = .slice ao 0 cap) ∨
    (0 < l.length ∧ ∃ b off cap, v = .slice (some ⟨b, off, none⟩) l.length cap ∧ b < w.heap.size ∧ ∀ i (h : i < l.length), w.cell? ⟨b, off + i, none⟩ = some (.int .i64 l[i])))

theorem IntsA.form {w : World} {v : Value} {l : List Int} (h : IntsA w v l) : ∃ ao cap, v = .slice ao l.length cap := by
  rcases h.2.2 with ⟨rfl, ao, cap, rfl⟩ | ⟨_, b, off, cap, rfl, _⟩
  · exact ⟨ao, cap, rfl⟩
  · exact ⟨_, cap, rfl⟩
theorem IntsA.nob {w w' : World} {v : Value} {l : List Int} (h : IntsA w v l) (ho : Only Nob w w') : IntsA w' v l := by
  refine ⟨h.1, h.2.1, ?_⟩
  rcases h.2.2 with h2 | ⟨h0, b, off, cap, rfl, hb, hc⟩
  · exact .inl h2
  · exact .inr ⟨h0, b, off, cap, rfl, Nat.lt_of_lt_of_le hb ho.size, fun i hi => (ho.cell (a := ⟨b, off + i, none⟩) hb (fun h => h)).trans (hc i hi)⟩
theorem IntsA.pos {w : World} {ao : Option Addr} {n cap : Nat} {l : List Int} (h : IntsA w (.slice ao n cap) l) (h0 : 0 < l.length) :
    ∃ b off, ao = some ⟨b, off, none⟩ ∧ b < w.heap.size ∧ ∀ i, i < l.length → w.cell? ⟨b, off + i, none⟩ = some (.int .i64 (l.getD i 0)) := by
  rcases h.2.2 with ⟨rfl, _⟩ | ⟨_, b, off, cap', hv, hb, hc⟩
  · simp at h0
  · simp only [Value.slice.injEq] at hv
    exact ⟨b, off, hv.1, hb, fun i hi => by rw [hc i hi, List.getD_eq_getElem?_getD, List.getElem?_eq_getElem hi]; rfl⟩
theorem IntsA.rng {w : World} {v : Value} {l : List Int} (h : IntsA w v l) (i : Nat) : Rng (l.getD i 0) := by
  rw [List.getD_eq_getElem?_getD]
  cases hk : l[i]? with
  | none => exact ⟨by decide, by decide⟩
  | some c => exact h.2.1 c (List.mem_of_getElem? hk)

end Go.Proofs.YtddjbfmohibgbaaDoor
