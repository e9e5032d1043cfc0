/- Rows of Booleans in memory; the marks that loops over iterators leave among a call's deferred calls. -/
import Derived.Test.YtddjbfmohibgbaaDoorEnds
import Derived.Deep.OwnRows
namespace Go.Proofs.YtddjbfmohibgbaaDoor
open Go.RowKit Go.Shelf

/-- A block that holds the Booleans b, and nothing else. -/
def BRow (w : World) (g : Nat) (b : List Bool) : Prop := w.heap[g]? = some (.cells (b.map Value.bool).toArray 4 (0, 0))

theorem BRow.lt {w : World} {g : Nat} {b : List Bool} (h : BRow w g b) : g < w.heap.size := lt_of_heap h
theorem BRow.other {S : Nat → Prop} {w w' : World} {g : Nat} {b : List Bool} (h : BRow w g b) (ho : Only S w w') (hn : ¬ S g) : BRow w' g b := (ho.block g h.lt hn).trans h
theorem BRow.cell {w : World} {g : Nat} {b : List Bool} (h : BRow w g b) {i : Nat} (hi : i < b.length) : w.cell? ⟨g, i, none⟩ = some (.bool b[i]) := by
  unfold BRow at h
  simp [World.cell?, h, hi]
theorem BRow.free {w : World} {g : Nat} {b : List Bool} (h : BRow w g b) (i : Nat) : w.frozen? ⟨g, i, none⟩ = false := by
  unfold BRow at h
  simp [World.frozen?, h]
theorem BRow.set {w : World} {g : Nat} {b : List Bool} (h : BRow w g b) (i : Nat) (v : Bool) : BRow (w.setCell ⟨g, i, none⟩ (.bool v)) g (b.set i v) := by
  have := heap_setCell_same w g i _ 4 (.bool v) h
  unfold BRow
  rw [this]
  simp [List.map_set]
theorem BRow.new (w : World) (n : Nat) : BRow (w.alloc (.cells (Array.replicate n (Value.bool false)) 4)) w.heap.size (List.replicate n false) := by
  unfold BRow
  rw [heap_alloc_new]
  simp

theorem Tryd.info4 : (Tryd.prog.info? 4).map (fun i => (i.zero, i.size, i.bytes)) = some (some (.bool false), 1, 1) := by kernel_rfl

theorem run_bools (w : World) (n : Nat) (hn : n ≤ 100000) : (Instr.makeSlice 91 (.int .i64 n) (.int .i64 n)).run Tryd.prog w = .ok (.slice (some ⟨w.heap.size, 0, none⟩) n n) (w.alloc (.cells (Array.replicate n (Value.bool false)) 4)) := by
  have h := run_make_row' (P := Tryd.prog) 91 4 (.bool false) 1 Tryd.underlying91 Tryd.info4 rfl .i64 .i64 n (by omega) (by omega) w
  have e : madeCells #[.bool false] n = (List.replicate n (Value.bool false)).toArray := by
    apply Array.ext
    · simp [madeCells]
    · intro i h1 h2
      simp [madeCells, Nat.mod_one]
  rw [h, e, List.toArray_replicate]

theorem grown_only {W W' : World} {row : Option Nat} (hg : W.grownBy W' row) : Only (fun k => row = some k) W W' := Only.grown hg (fun _ h => h)
theorem not_row {W : World} {row : Option Nat} (hr : ∀ r, row = some r → ∃ o : Obj, W.heap[r]? = some o ∧ o.isCells = false) {k : Nat} (hk : ∃ o : Obj, W.heap[k]? = some o ∧ o.isCells = true) : ¬ row = some k := fun e => by
  obtain ⟨o, ho, hc⟩ := hk
  obtain ⟨o', ho', hc'⟩ := hr k e
  rw [ho] at ho'
  obtain rfl := Option.some.inj ho'
  rw [hc] at hc'; cases hc'

theorem keeps_only {T : Nat → Prop} {W W' : World} (ho : Only T W W') (hT : ∀ k, T k → k < W.heap.size → ∃ o : Obj, W.heap[k]? = some o ∧ o.isCells = true) : KeepsOthers W W' :=
  ⟨ho.size, fun k o hk hc => by
    rw [ho.block k (lt_of_heap hk) (fun ht => ?_)]; exact hk
    obtain ⟨o', ho', hc'⟩ := hT k ht (lt_of_heap hk)
    rw [hk] at ho'
    obtain rfl := Option.some.inj ho'
    rw [hc] at hc'; cases hc'⟩

theorem only_putObj {S : Nat → Prop} (W : World) (l : Nat) (o : Obj) (h : S l) : Only S W (W.putObj l o) := (grown_only (grownBy_putObj' W l o)).mono (fun k _ hk => by cases hk; exact h)

/-- The marks ds: each is a block of its own from B on, below U, that holds no call. -/
def Marks (w : World) (B : Nat) : Nat → List Deferred → Prop
  | _, [] => True
  | U, d :: ds => ∃ D, d = { target := .collected D, args := #[] } ∧ B ≤ D ∧ D < U ∧ w.heap[D]? = some (.deferred (some [])) ∧ Marks w B D ds

theorem Marks.up {w : World} {B U U' : Nat} {ds : List Deferred} (h : Marks w B U ds) (hU : U ≤ U') : Marks w B U' ds := by
  cases ds with
  | nil => trivial
  | cons d ds =>
    obtain ⟨D, h1, h2, h3, h4, h5⟩ := h
    exact ⟨D, h1, h2, by omega, h4, h5⟩
theorem Marks.other {S : Nat → Prop} {w w' : World} {B : Nat} (ho : Only S w w') : ∀ {U : Nat} {ds : List Deferred}, Marks w B U ds → (∀ k, S k → k < U → ∀ o, w.heap[k]? = some o → o.isCells = true) → U ≤ w.heap.size → Marks w' B U ds
  | _, [], _, _, _ => trivial
  | U, d :: ds, h, hS, hU => by
    obtain ⟨D, h1, h2, h3, h4, h5⟩ := h
    refine ⟨D, h1, h2, h3, ?_, Marks.other ho h5 (fun k hk hl => hS k hk (by omega)) (by omega)⟩
    refine (ho.block D (by omega) (fun hx => ?_)).trans h4
    have := hS D hx h3 _ h4
    cases this

/-- What a walk out of a function does to memory: the marks are shut. -/
def Shut0 (B : Nat) (w w' : World) : Prop := Only (fun k => B ≤ k ∧ ∀ o, w.heap[k]? = some o → o.isCells = false) w w'

theorem leaves_marks {F : Fence} {n : Nat} {P : Program} {fn : Func} {tmps : Array Value} {R : Ending → World → Prop} {B : Nat} : ∀ (ds : List Deferred) (U : Nat) (w : World), Marks w B U ds → U ≤ w.heap.size →
    (∀ w', Only (fun k => B ≤ k ∧ k < U ∧ ∀ o, w.heap[k]? = some o → o.isCells = false) w w' → LeavesIn F n P fn tmps R [] .returning w') → LeavesInM F n P fn tmps R ds .returning w
  | [], U, w, _, _, h => h w (Only.refl _ _)
  | d :: ds, U, w, hm, hU, h => by
    obtain ⟨D, rfl, h2, h3, h4, h5⟩ := hm
    refine ⟨by simp, .inl ⟨D, _, rfl, run_takeDeferred h4, ?_⟩⟩
    have hlt : D < w.heap.size := lt_of_heap h4
    have o1 : Only (Is D) w (w.putObj D (.deferred none)) := only_putObj _ _ _ rfl
    have hz : (w.putObj D (.deferred none)).heap.size = w.heap.size := World.putObj_size
    refine leaves_marks ds D _ (Marks.other o1 h5 (fun k hk hl => absurd hl (by have : k = D := hk; omega)) (by omega)) (by omega) (fun w' o => h w' ?_)
    refine (o1.mono (fun k _ hk => ?_)).trans (o.mono (fun k hk hx => hx)) (fun k hk hx => ?_)
    · have : k = D := hk
      subst this
      refine ⟨h2, h3, fun o ho => ?_⟩
      rw [h4] at ho
      obtain rfl := Option.some.inj ho
      rfl
    · obtain ⟨g1, g2, g3⟩ := hx
      refine ⟨g1, by omega, fun o ho => g3 o ?_⟩
      rw [o1.block k hk (fun e => by have : k = D := e; omega)]
      exact ho

end Go.Proofs.YtddjbfmohibgbaaDoor
