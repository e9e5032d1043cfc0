/- The disk as a state of plain lists, what its calls make of it, and how it lies in memory. -/
import Derived.Test.YtdpebdghhgojaaaBase
namespace Go.Proofs.Ytdpebdghhgojaaa
open Go.RowKit

/-- The state of a disk. -/
structure DS where
  now : List UInt8
  syn : List UInt8
  pcs : List (Nat × List UInt8)
  calls : Nat
  fail : Bool
  left : Int

/-- The power is off. -/
def DS.off (d : DS) : Bool := d.fail && d.left == 0
def DS.tick (d : DS) : DS := { d with calls := d.calls + 1, left := if d.fail then d.left - 1 else d.left }

/-- The parts of a text at an offset; the first number bounds how many. -/
def partsF : Nat → Nat → List UInt8 → List (Nat × List UInt8)
  | 0, _, _ => []
  | _ + 1, _, [] => []
  | k + 1, off, c :: s => (off, (c :: s).take (64 - off % 64)) :: partsF k (off + min (64 - off % 64) (s.length + 1)) ((c :: s).drop (64 - off % 64))
def parts (off : Nat) (s : List UInt8) : List (Nat × List UInt8) := partsF s.length off s

/-- Bounds that every disk keeps. -/
structure DS.Ok (d : DS) : Prop where
  now : d.now.length ≤ 16777216
  syn : d.syn.length ≤ 16777216
  pcs : d.pcs.length ≤ d.calls * 16777216
  calls : d.calls ≤ 100000
  left : d.fail = true → 0 ≤ d.left ∧ d.left ≤ 9223372036854775807
  each : ∀ p ∈ d.pcs, p.1 + p.2.length ≤ 16777216

/-- The six cells of a disk's own block. -/
def Hdr (w : World) (b : Nat) (vn vs vp : Value) (d : DS) : Prop :=
  w.heap[b]? = some (.cells #[vn, vs, vp, .int .i64 d.calls, .bool d.fail, .int .i64 d.left] 62 (0, 0))

theorem Hdr.cells {w : World} {b : Nat} {vn vs vp : Value} {d : DS} (h : Hdr w b vn vs vp d) :
    w.cell? ⟨b, 0, none⟩ = some vn ∧ w.cell? ⟨b, 1, none⟩ = some vs ∧ w.cell? ⟨b, 2, none⟩ = some vp ∧ w.cell? ⟨b, 3, none⟩ = some (.int .i64 d.calls) ∧ w.cell? ⟨b, 4, none⟩ = some (.bool d.fail) ∧ w.cell? ⟨b, 5, none⟩ = some (.int .i64 d.left) := by
  unfold Hdr at h
  simp [World.cell?, h]
theorem Hdr.free {w : World} {b : Nat} {vn vs vp : Value} {d : DS} (h : Hdr w b vn vs vp d) (i : Nat) : w.frozen? ⟨b, i, none⟩ = false := by
  unfold Hdr at h
  simp [World.frozen?, h]
theorem Hdr.lt {w : World} {b : Nat} {vn vs vp : Value} {d : DS} (h : Hdr w b vn vs vp d) : b < w.heap.size := lt_of_heap h
theorem Hdr.other {S : Nat → Prop} {w w' : World} {b : Nat} {vn vs vp : Value} {d : DS} (h : Hdr w b vn vs vp d) (ho : Only S w w') (hn : ¬ S b) : Hdr w' b vn vs vp d := (ho.block b h.lt hn).trans h
theorem Hdr.set {w : World} {b i : Nat} {v : Value} {cs : Array Value} (h : w.heap[b]? = some (.cells cs 62 (0, 0))) : (w.setCell ⟨b, i, none⟩ v).heap[b]? = some (.cells (cs.setIfInBounds i v) 62 (0, 0)) :=
  heap_setCell_same w b i cs 62 v h

/-- The cells of pieces whose texts are the slices vs. -/
def pieceCells : List (Nat × List UInt8) → List Value → List Value
  | p :: ps, v :: vs => .int .i64 p.1 :: v :: pieceCells ps vs
  | _, _ => []

/-- vp is the slice of the pieces l, whose texts are the slices vts. -/
structure Pcs (w : World) (vp : Value) (l : List (Nat × List UInt8)) (vts : List Value) : Prop where
  len : vts.length = l.length
  row : w.ownsRow 0 88 2 vp l.length (pieceCells l vts)
  txt : ∀ i (h : i < l.length), ∃ v, vts[i]? = some v ∧ Src w v l[i].2

/-- A disk's own block and the four kinds of blocks behind it, which lie apart. -/
structure Core (w : World) (fp : Nat → Prop) (b : Nat) (vn vs vp : Value) (vts : List Value) (d : DS) : Prop where
  hdr : Hdr w b vn vs vp d
  now : Row w vn d.now
  syn : Row w vs d.syn
  pcs : Pcs w vp d.pcs vts
  hb : fp b
  an : ∀ k, Blk vn k → fp k ∧ k ≠ b
  as' : ∀ k, Blk vs k → fp k ∧ k ≠ b ∧ ¬ Blk vn k
  ap : ∀ k, Blk vp k → fp k ∧ k ≠ b ∧ ¬ Blk vn k ∧ ¬ Blk vs k
  at' : ∀ v ∈ vts, ∀ k, Blk v k → fp k ∧ k ≠ b ∧ ¬ Blk vn k ∧ ¬ Blk vs k ∧ ¬ Blk vp k

/-- A disk at block b, with the state d; all of it lies in the blocks of fp. -/
structure DiskAt (w : World) (fp : Nat → Prop) (b : Nat) (d : DS) : Prop where
  lt : ∀ k, fp k → k < w.heap.size
  ok : d.Ok
  ex : ∃ vn vs vp vts, Core w fp b vn vs vp vts d

theorem Own.lt {w : World} {e : TypeId} {size : Nat} {v : Value} {n : Nat} {xs : List Value} (h : w.ownsRow 0 e size v n xs) {k : Nat} (hk : Blk v k) : k < w.heap.size := (World.ownsRow.lt h k hk).2
theorem Own.other {S : Nat → Prop} {w w' : World} {e : TypeId} {size : Nat} {v : Value} {n : Nat} {xs : List Value} (h : w.ownsRow 0 e size v n xs) (ho : Only S w w') (hn : ∀ k, Blk v k → ¬ S k) : w'.ownsRow 0 e size v n xs := by
  refine ⟨h.1, ?_⟩
  rcases h.2 with h2 | ⟨g, cap, cur, rfl, hb, hg, r⟩
  · exact .inl h2
  · exact .inr ⟨g, cap, cur, rfl, hb, (ho.block g (lt_of_heap hg) (hn g rfl)).trans hg, r⟩

theorem Pcs.other {S : Nat → Prop} {w w' : World} {vp : Value} {l : List (Nat × List UInt8)} {vts : List Value} (h : Pcs w vp l vts) (ho : Only S w w') (hn : ∀ k, Blk vp k → ¬ S k) (ht : ∀ v ∈ vts, ∀ k, Blk v k → ¬ S k) : Pcs w' vp l vts :=
  ⟨h.len, Own.other h.row ho hn, fun i hi => by
    obtain ⟨v, hv, hs⟩ := h.txt i hi
    exact ⟨v, hv, hs.other ho (ht v (List.mem_of_getElem? hv))⟩⟩

theorem Pcs.vlt {w : World} {vp : Value} {l : List (Nat × List UInt8)} {vts : List Value} (h : Pcs w vp l vts) {v : Value} (hv : v ∈ vts) {k : Nat} (hk : Blk v k) : k < w.heap.size := by
  obtain ⟨i, hi, rfl⟩ := List.mem_iff_getElem.1 hv
  obtain ⟨v', hv', hs⟩ := h.txt i (by have := h.len; omega)
  rw [List.getElem?_eq_getElem hi] at hv'
  obtain rfl := Option.some.inj hv'
  exact hs.lt hk

theorem pieceCells_snoc : ∀ (l : List (Nat × List UInt8)) (vts : List Value) (p : Nat × List UInt8) (v : Value), vts.length = l.length → pieceCells (l ++ [p]) (vts ++ [v]) = pieceCells l vts ++ [.int .i64 p.1, v]
  | [], [], _, _, _ => rfl
  | [], _ :: _, _, _, h => by simp at h
  | _ :: _, [], _, _, h => by simp at h
  | q :: l, u :: vts, p, v, h => by
    have := pieceCells_snoc l vts p v (by simpa using h)
    simp only [List.cons_append, pieceCells, this]

theorem grow_old {S : Nat → Prop} {w w' : World} {k : Nat} (h : S k) : grow S w w' k := .inl h

/-- Another disk, or anything else, was written: this one is as it was. -/
theorem Core.other {S fp : Nat → Prop} {w w' : World} {b : Nat} {vn vs vp : Value} {vts : List Value} {d : DS} (h : Core w fp b vn vs vp vts d) (ho : Only S w w') (hn : ∀ k, fp k → ¬ S k) : Core w' fp b vn vs vp vts d :=
  ⟨h.hdr.other ho (hn b h.hb), h.now.other ho (fun k hk => hn k (h.an k hk).1), h.syn.other ho (fun k hk => hn k (h.as' k hk).1), h.pcs.other ho (fun k hk => hn k (h.ap k hk).1) (fun v hv k hk => hn k (h.at' v hv k hk).1), h.hb, h.an, h.as', h.ap, h.at'⟩

theorem Core.mono {fp fp' : Nat → Prop} {w : World} {b : Nat} {vn vs vp : Value} {vts : List Value} {d : DS} (h : Core w fp b vn vs vp vts d) (hs : ∀ k, fp k → fp' k) : Core w fp' b vn vs vp vts d :=
  ⟨h.hdr, h.now, h.syn, h.pcs, hs _ h.hb, fun k hk => ⟨hs _ (h.an k hk).1, (h.an k hk).2⟩, fun k hk => ⟨hs _ (h.as' k hk).1, (h.as' k hk).2⟩, fun k hk => ⟨hs _ (h.ap k hk).1, (h.ap k hk).2⟩, fun v hv k hk => ⟨hs _ (h.at' v hv k hk).1, (h.at' v hv k hk).2⟩⟩

/-- Its own block alone was written: other numbers, the same slices. -/
theorem Core.head {fp : Nat → Prop} {w w' : World} {b : Nat} {vn vs vp : Value} {vts : List Value} {d d' : DS} (h : Core w fp b vn vs vp vts d) (ho : Only (Is b) w w') (hh : Hdr w' b vn vs vp d') (e1 : d'.now = d.now) (e2 : d'.syn = d.syn) (e3 : d'.pcs = d.pcs) : Core w' fp b vn vs vp vts d' :=
  ⟨hh, by rw [e1]; exact h.now.other ho (fun k hk => (h.an k hk).2), by rw [e2]; exact h.syn.other ho (fun k hk => (h.as' k hk).2.1), by rw [e3]; exact h.pcs.other ho (fun k hk => (h.ap k hk).2.1) (fun v hv k hk => (h.at' v hv k hk).2.1), h.hb, h.an, h.as', h.ap, h.at'⟩

theorem Hdr.set0 {w : World} {b : Nat} {vn vs vp v : Value} {d : DS} {l : List UInt8} (h : Hdr w b vn vs vp d) : Hdr (w.setCell ⟨b, 0, none⟩ v) b v vs vp { d with now := l } := Hdr.set h
theorem Hdr.set1 {w : World} {b : Nat} {vn vs vp v : Value} {d : DS} {l : List UInt8} (h : Hdr w b vn vs vp d) : Hdr (w.setCell ⟨b, 1, none⟩ v) b vn v vp { d with syn := l } := Hdr.set h

/-- The contents were written, in place or in a new block, and the slice was stored. -/
theorem Core.setNow {fp : Nat → Prop} {w w' : World} {b : Nat} {vn vs vp v : Value} {vts : List Value} {d : DS} {l : List UInt8} (h : Core w fp b vn vs vp vts d) (hr : Row w' v l) (ho : Only (Blk vn) w w') (hf : ∀ k, Blk v k → Blk vn k ∨ w.heap.size ≤ k) :
    Core (w'.setCell ⟨b, 0, none⟩ v) (grow fp w w') b v vs vp vts { d with now := l } := by
  have hlt := h.hdr.lt
  have hh : Hdr w' b vn vs vp d := h.hdr.other ho (fun x => (h.an b x).2 rfl)
  have hvb : ∀ k, Blk v k → k ≠ b := fun k hk e => by
    rcases hf k hk with h1 | h1
    · exact (h.an k h1).2 e
    · omega
  have hS : Only (Is b) w' (w'.setCell ⟨b, 0, none⟩ v) := Only.setCell _ _ _ rfl
  have key : ∀ {u : Value} {k : Nat}, Blk u k → k < w.heap.size → ¬ Blk vn k → ¬ Blk v k := fun hu hl hn hx => by
    rcases hf _ hx with h1 | h1
    · exact hn h1
    · omega
  refine ⟨Hdr.set0 hh, hr.other hS hvb, (h.syn.other ho (fun k hk => (h.as' k hk).2.2)).other hS (fun k hk => (h.as' k hk).2.1),
    (h.pcs.other ho (fun k hk => (h.ap k hk).2.2.1) (fun u hu k hk => (h.at' u hu k hk).2.2.1)).other hS (fun k hk => (h.ap k hk).2.1) (fun u hu k hk => (h.at' u hu k hk).2.1),
    .inl h.hb, fun k hk => ⟨?_, hvb k hk⟩, fun k hk => ?_, fun k hk => ?_, fun u hu k hk => ?_⟩
  · rcases hf k hk with h1 | h1
    · exact .inl (h.an k h1).1
    · exact .inr ⟨h1, Own.lt hr hk⟩
  · obtain ⟨a1, a2, a3⟩ := h.as' k hk
    exact ⟨.inl a1, a2, key hk (Own.lt h.syn hk) a3⟩
  · obtain ⟨a1, a2, a3, a4⟩ := h.ap k hk
    exact ⟨.inl a1, a2, key hk (Own.lt h.pcs.row hk) a3, a4⟩
  · obtain ⟨a1, a2, a3, a4, a5⟩ := h.at' u hu k hk
    exact ⟨.inl a1, a2, key hk (h.pcs.vlt hu hk) a3, a4, a5⟩

/-- The synced contents were written, and the slice was stored. -/
theorem Core.setSyn {fp : Nat → Prop} {w w' : World} {b : Nat} {vn vs vp v : Value} {vts : List Value} {d : DS} {l : List UInt8} (h : Core w fp b vn vs vp vts d) (hr : Row w' v l) (ho : Only (Blk vs) w w') (hf : ∀ k, Blk v k → Blk vs k ∨ w.heap.size ≤ k) :
    Core (w'.setCell ⟨b, 1, none⟩ v) (grow fp w w') b vn v vp vts { d with syn := l } := by
  have hlt := h.hdr.lt
  have hh : Hdr w' b vn vs vp d := h.hdr.other ho (fun x => (h.as' b x).2.1 rfl)
  have hvb : ∀ k, Blk v k → k ≠ b := fun k hk e => by
    rcases hf k hk with h1 | h1
    · exact (h.as' k h1).2.1 e
    · omega
  have hS : Only (Is b) w' (w'.setCell ⟨b, 1, none⟩ v) := Only.setCell _ _ _ rfl
  have key : ∀ {u : Value} {k : Nat}, Blk u k → k < w.heap.size → ¬ Blk vs k → ¬ Blk v k := fun hu hl hn hx => by
    rcases hf _ hx with h1 | h1
    · exact hn h1
    · omega
  refine ⟨Hdr.set1 hh, (h.now.other ho (fun k hk hx => (h.as' k hx).2.2 hk)).other hS (fun k hk => (h.an k hk).2), hr.other hS hvb,
    (h.pcs.other ho (fun k hk => (h.ap k hk).2.2.2) (fun u hu k hk => (h.at' u hu k hk).2.2.2.1)).other hS (fun k hk => (h.ap k hk).2.1) (fun u hu k hk => (h.at' u hu k hk).2.1),
    .inl h.hb, fun k hk => ⟨.inl (h.an k hk).1, (h.an k hk).2⟩, fun k hk => ⟨?_, hvb k hk, ?_⟩, fun k hk => ?_, fun u hu k hk => ?_⟩
  · rcases hf k hk with h1 | h1
    · exact .inl (h.as' k h1).1
    · exact .inr ⟨h1, Own.lt hr hk⟩
  · intro hx
    exact key hx (Own.lt h.now hx) (fun hy => (h.as' k hy).2.2 hx) hk
  · obtain ⟨a1, a2, a3, a4⟩ := h.ap k hk
    exact ⟨.inl a1, a2, a3, key hk (Own.lt h.pcs.row hk) a4⟩
  · obtain ⟨a1, a2, a3, a4, a5⟩ := h.at' u hu k hk
    exact ⟨.inl a1, a2, a3, key hk (h.pcs.vlt hu hk) a4, a5⟩

/-- A piece was added: its text lies in a block that is new since w. -/
theorem Core.addPc {fp : Nat → Prop} {w w1 w' : World} {b : Nat} {vn vs vp vp' v : Value} {vts : List Value} {d : DS} {off : Nat} {t : List UInt8} (h : Core w fp b vn vs vp vts d) (h1 : Only Nob w w1) (hv : Src w1 v t) (hvf : ∀ k, Blk v k → w.heap.size ≤ k)
    (hh : Hdr w' b vn vs vp' d) (hr : w'.ownsRow 0 88 2 vp' (d.pcs.length + 1) (pieceCells d.pcs vts ++ [.int .i64 off, v])) (ho : Only (fun k => k = b ∨ Blk vp k) w1 w') (hf : ∀ k, Blk vp' k → Blk vp k ∨ w1.heap.size ≤ k) :
    Core w' (grow fp w w') b vn vs vp' (vts ++ [v]) { d with pcs := d.pcs ++ [(off, t)] } := by
  have hlt := h.hdr.lt
  have hz1 := h1.size
  have hz2 := ho.size
  have key : ∀ {k : Nat}, k < w.heap.size → ¬ Blk vp k → ¬ Blk vp' k := fun hl hn hx => by
    rcases hf _ hx with h2 | h2
    · exact hn h2
    · omega
  have hvb : ∀ k, Blk v k → k ≠ b ∧ ¬ Blk vp k := fun k hk => ⟨fun e => by have := hvf k hk; omega, fun e => by have := hvf k hk; have := Own.lt h.pcs.row e; omega⟩
  refine ⟨hh, (h.now.other h1 (fun _ _ x => x)).other ho (fun k hk hx => ?_), (h.syn.other h1 (fun _ _ x => x)).other ho (fun k hk hx => ?_), ⟨by simp [h.pcs.len], ?_, ?_⟩, .inl h.hb, ?_, ?_, ?_, ?_⟩
  · rcases hx with hx | hx
    · exact (h.an k hk).2 hx
    · exact (h.ap k hx).2.2.1 hk
  · rcases hx with hx | hx
    · exact (h.as' k hk).2.1 hx
    · exact (h.ap k hx).2.2.2 hk
  · show w'.ownsRow 0 88 2 vp' (d.pcs ++ [(off, t)]).length (pieceCells (d.pcs ++ [(off, t)]) (vts ++ [v]))
    rw [pieceCells_snoc _ _ _ _ h.pcs.len, List.length_append]
    exact hr
  · intro i hi
    by_cases hlast : i < d.pcs.length
    · obtain ⟨u, hu, hs⟩ := h.pcs.txt i hlast
      have hul : i < vts.length := by have := h.pcs.len; omega
      refine ⟨u, by rw [List.getElem?_append_left hul]; exact hu, ?_⟩
      have hmem := List.mem_of_getElem? hu
      have := (hs.other h1 (fun _ _ x => x)).other ho (fun k hk hx => by
        rcases hx with hx | hx
        · exact (h.at' u hmem k hk).2.1 hx
        · exact (h.at' u hmem k hk).2.2.2.2 hx)
      simpa [List.getElem_append_left hlast] using this
    · have hi2 : i = d.pcs.length := by simp at hi; omega
      subst hi2
      refine ⟨v, by rw [← h.pcs.len]; simp, ?_⟩
      have := hv.other ho (fun k hk hx => by
        rcases hx with hx | hx
        · exact (hvb k hk).1 hx
        · exact (hvb k hk).2 hx)
      simpa using this
  · exact fun k hk => ⟨.inl (h.an k hk).1, (h.an k hk).2⟩
  · exact fun k hk => ⟨.inl (h.as' k hk).1, (h.as' k hk).2⟩
  · intro k hk
    have hkl := Own.lt hr hk
    rcases hf k hk with h2 | h2
    · obtain ⟨a1, a2, a3, a4⟩ := h.ap k h2
      exact ⟨.inl a1, a2, a3, a4⟩
    · refine ⟨.inr ⟨by omega, hkl⟩, by omega, fun x => ?_, fun x => ?_⟩
      · have := Own.lt h.now x; omega
      · have := Own.lt h.syn x; omega
  · intro u hu k hk
    rcases List.mem_append.1 hu with hu | hu
    · obtain ⟨a1, a2, a3, a4, a5⟩ := h.at' u hu k hk
      exact ⟨.inl a1, a2, a3, a4, key (h.pcs.vlt hu hk) a5⟩
    · simp at hu
      subst hu
      have h2 := hvf k hk
      have h3 := hv.lt hk
      refine ⟨.inr ⟨h2, by omega⟩, (hvb k hk).1, fun x => ?_, fun x => ?_, fun x => ?_⟩
      · have := Own.lt h.now x; omega
      · have := Own.lt h.syn x; omega
      · rcases hf k x with h4 | h4
        · exact (hvb k hk).2 h4
        · omega

/-! ### Parts -/
theorem partsF_fuel : ∀ (k off : Nat) (s : List UInt8), s.length ≤ k → partsF k off s = partsF s.length off s := by
  intro k
  induction k using Nat.strongRecOn with
  | ind k ih =>
    intro off s h
    cases k with
    | zero => obtain rfl : s = [] := List.eq_nil_of_length_eq_zero (by omega); rfl
    | succ k =>
      cases s with
      | nil => rfl
      | cons c s =>
        simp only [partsF, List.length_cons]
        have hm := Nat.mod_lt off (show 64 > 0 by omega)
        have hl : ((c :: s).drop (64 - off % 64)).length ≤ s.length := by simp; omega
        rw [ih k (by omega) _ _ (by simp at h; omega)]
        by_cases hk : s.length = k
        · subst hk
          rw [ih s.length (by omega) _ _ hl]
        · rw [ih s.length (by simp at h; omega) _ _ hl]

theorem parts_nil (off : Nat) : parts off [] = [] := rfl
theorem parts_cons (off : Nat) (s : List UInt8) (h : 0 < s.length) : parts off s = (off, s.take (64 - off % 64)) :: parts (off + min (64 - off % 64) s.length) (s.drop (64 - off % 64)) := by
  cases s with
  | nil => simp at h
  | cons c s =>
    have hm := Nat.mod_lt off (show 64 > 0 by omega)
    have hl : ((c :: s).drop (64 - off % 64)).length ≤ s.length := by simp; omega
    unfold parts
    simp only [List.length_cons, partsF]
    rw [partsF_fuel s.length _ _ hl]

theorem parts_each : ∀ (n off : Nat) (s : List UInt8), s.length ≤ n → (∀ p ∈ parts off s, p.1 + p.2.length ≤ off + s.length) ∧ (parts off s).length ≤ s.length := by
  intro n
  induction n with
  | zero => intro off s h; obtain rfl : s = [] := List.eq_nil_of_length_eq_zero (by omega); simp [parts_nil]
  | succ n ih =>
    intro off s h
    by_cases h0 : 0 < s.length
    · have hm := Nat.mod_lt off (show 64 > 0 by omega)
      obtain ⟨i1, i2⟩ := ih (off + min (64 - off % 64) s.length) (s.drop (64 - off % 64)) (by simp; omega)
      rw [parts_cons off s h0]
      constructor
      · intro p hp
        rcases List.mem_cons.1 hp with rfl | hp
        · simp; omega
        · have := i1 p hp
          simp at this
          omega
      · simp at i2 ⊢; omega
    · obtain rfl : s = [] := List.eq_nil_of_length_eq_zero (by omega); simp [parts_nil]

def DS.written (d : DS) (off : Nat) (s : List UInt8) : DS := { d.tick with now := put d.now off s, pcs := d.pcs ++ parts off s }
def DS.synced (d : DS) : DS := { d.tick with syn := d.now, pcs := [] }

theorem DS.Ok.tick {d : DS} (h : d.Ok) (hc : d.calls < 100000) (ho : d.off = false) : d.tick.Ok := by
  refine ⟨h.now, h.syn, ?_, ?_, ?_, h.each⟩
  · have := h.pcs; show d.pcs.length ≤ (d.calls + 1) * 16777216; rw [Nat.add_mul]; exact Nat.le_trans this (Nat.le_add_right _ _)
  · show d.calls + 1 ≤ 100000; omega
  · intro hf
    have hf' : d.fail = true := hf
    have := h.left hf'
    simp [DS.off, hf'] at ho
    simp [DS.tick, hf']
    omega

theorem DS.Ok.written {d : DS} (h : d.Ok) (hc : d.calls < 100000) (ho : d.off = false) {off : Nat} {s : List UInt8} (hs : off + s.length ≤ 16777216) : (d.written off s).Ok := by
  have ht := h.tick hc ho
  obtain ⟨p1, p2⟩ := parts_each s.length off s (Nat.le_refl _)
  refine ⟨?_, ht.syn, ?_, ht.calls, ht.left, ?_⟩
  · have := h.now; show (put d.now off s).length ≤ 16777216; rw [length_put]; omega
  · have := h.pcs; show (d.pcs ++ parts off s).length ≤ (d.calls + 1) * 16777216; rw [List.length_append, Nat.add_mul, Nat.one_mul]; exact Nat.add_le_add this (by omega)
  · intro p hp
    rcases List.mem_append.1 hp with hp | hp
    · exact h.each p hp
    · have := p1 p hp; omega

theorem DS.Ok.synced {d : DS} (h : d.Ok) (hc : d.calls < 100000) (ho : d.off = false) : d.synced.Ok := by
  have ht := h.tick hc ho
  exact ⟨h.now, h.now, by have : d.synced.pcs.length = 0 := rfl; omega, ht.calls, ht.left, fun p hp => by have : d.synced.pcs = [] := rfl; rw [this] at hp; cases hp⟩

/-- What a call on a disk leaves: the answer, the disk, and nothing else changed. -/
def DPost (fp : Nat → Prop) (b : Nat) (d : DS) (r : Value) (w : World) (e : Ending) (w' : World) : Prop :=
  e = .returned r ∧ DiskAt w' (grow fp w w') b d ∧ Only fp w w'

theorem grow_lt {fp : Nat → Prop} {w w' : World} (h : ∀ k, fp k → k < w.heap.size) (hs : w.heap.size ≤ w'.heap.size) : ∀ k, grow fp w w' k → k < w'.heap.size := by
  rintro k (hk | ⟨_, hk⟩)
  · have := h k hk; omega
  · exact hk

theorem grow_grow {fp : Nat → Prop} {w w1 w2 : World} (h1 : w.heap.size ≤ w1.heap.size) (h2 : w1.heap.size ≤ w2.heap.size) {k : Nat} (h : grow (grow fp w w1) w1 w2 k) : grow fp w w2 k := by
  rcases h with (h | ⟨a, b⟩) | ⟨a, b⟩
  · exact .inl h
  · exact .inr ⟨a, by omega⟩
  · exact .inr ⟨by omega, b⟩

theorem Only.trans' {fp : Nat → Prop} {w w1 w2 : World} (h : Only fp w w1) (k : Only (grow fp w w1) w1 w2) : Only fp w w2 :=
  h.trans k (fun i hi hg => by
    rcases hg with hg | ⟨hg, _⟩
    · exact hg
    · omega)

theorem toList_extract (s : ByteArray) (a b : Nat) : (s.extract a b).data.toList = (s.data.toList.drop a).take (b - a) := by
  simp [ByteArray.data_extract, Array.toList_extract, List.take_drop]

end Go.Proofs.Ytdpebdghhgojaaa
