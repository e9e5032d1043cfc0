/- Slices of pieces in memory. -/
import Derived.Test.YtddjbfmohibgbaaDoorNum
import Derived.Test.YtddjbfmohibgbaaDoorOwn
namespace Go.Proofs.YtddjbfmohibgbaaDoor
open Go.RowKit

/-- The four cells of a piece. -/
def PcAt (w : World) (b o : Nat) (x : Pc) : Prop :=
  w.cell? ⟨b, o, none⟩ = some (.int .i64 x.c) ∧ w.cell? ⟨b, o + 1, none⟩ = some (.int .i64 x.l) ∧ w.cell? ⟨b, o + 2, none⟩ = some (.int .i64 x.m) ∧ w.cell? ⟨b, o + 3, none⟩ = some (.string ⟨x.t.toArray⟩)

theorem PcAt.other {S : Nat → Prop} {w w' : World} {b o : Nat} {x : Pc} (h : PcAt w b o x) (ho : Only S w w') (hn : ¬ S b) : PcAt w' b o x := by
  have hb := World.block_lt_of_cell? w _ h.1
  exact ⟨(ho.cell (a := ⟨b, o, none⟩) hb hn).trans h.1, (ho.cell (a := ⟨b, o + 1, none⟩) hb hn).trans h.2.1, (ho.cell (a := ⟨b, o + 2, none⟩) hb hn).trans h.2.2.1, (ho.cell (a := ⟨b, o + 3, none⟩) hb hn).trans h.2.2.2⟩
theorem PcAt.lt {w : World} {b o : Nat} {x : Pc} (h : PcAt w b o x) : b < w.heap.size := World.block_lt_of_cell? w _ h.1

/-- v is a slice that reads as the pieces p. -/
def Pcs (w : World) (v : Value) (p : List Pc) : Prop :=
  (p = [] ∧ ∃ ao cap, v = .slice ao 0 cap) ∨
  (0 < p.length ∧ ∃ b off cap, v = .slice (some ⟨b, off, none⟩) p.length cap ∧ b < w.heap.size ∧ ∀ i (h : i < p.length), PcAt w b (off + i * 4) p[i])

theorem Pcs.form {w : World} {v : Value} {p : List Pc} (h : Pcs w v p) : ∃ ao cap, v = .slice ao p.length cap := by
  rcases h with ⟨rfl, ao, cap, rfl⟩ | ⟨_, b, off, cap, rfl, _⟩
  · exact ⟨ao, cap, rfl⟩
  · exact ⟨_, cap, rfl⟩
theorem Pcs.other {S : Nat → Prop} {w w' : World} {v : Value} {p : List Pc} (h : Pcs w v p) (ho : Only S w w') (hn : ∀ b off cap n, v = .slice (some ⟨b, off, none⟩) n cap → ¬ S b) : Pcs w' v p := by
  rcases h with h | ⟨h0, b, off, cap, rfl, hb, hc⟩
  · exact .inl h
  · exact .inr ⟨h0, b, off, cap, rfl, Nat.lt_of_lt_of_le hb ho.size, fun i hi => (hc i hi).other ho (hn b off cap _ rfl)⟩
theorem Pcs.nob {w w' : World} {v : Value} {p : List Pc} (h : Pcs w v p) (ho : Only Nob w w') : Pcs w' v p := h.other ho (fun _ _ _ _ _ h => h)
theorem Pcs.at {w : World} {ao : Option Addr} {n cap : Nat} {p : List Pc} (h : Pcs w (.slice ao n cap) p) {k : Nat} (hk : k < p.length) :
    ∃ b off, ao = some ⟨b, off, none⟩ ∧ b < w.heap.size ∧ PcAt w b (off + k * 4) p[k] := by
  rcases h with ⟨rfl, _⟩ | ⟨_, b, off, cap', hv, hb, hc⟩
  · simp at hk
  · simp only [Value.slice.injEq] at hv
    exact ⟨b, off, hv.1, hb, hc k hk⟩

/-- Numbers that fit, a text that fits. -/
def PcOk (x : Pc) : Prop := Rng x.c ∧ Rng x.l ∧ Rng x.m ∧ x.t.length ≤ 1000
/-- What the functions ask of a list of pieces. -/
def Fair (p : List Pc) : Prop := p.length ≤ 1000 ∧ ∀ x ∈ p, PcOk x

theorem byte_back (c : UInt8) : ((c.toNat : Int)).toNat.toUInt8 = c := by simp

/-- Where a byte stands among the five that want a backslash. -/
def idxS (c : UInt8) : Int := Lib.indexByte [92, 123, 125, 43, 42] c
theorem idxS_yes {c : UInt8} (h : special c = true) : 0 ≤ idxS c := by
  simp only [special, Bool.or_eq_true, beq_iff_eq] at h
  rcases h with (((rfl | rfl) | rfl) | rfl) | rfl <;> decide
theorem idxS_no {c : UInt8} (h : special c = false) : idxS c = -1 := by
  simp only [special, Bool.or_eq_false_iff, beq_eq_false_iff_ne, ne_eq] at h
  obtain ⟨⟨⟨⟨h1, h2⟩, h3⟩, h4⟩, h5⟩ := h
  have f : ∀ a b : UInt8, ¬ b = a → (a == b) = false := fun a b h => by simp; exact fun e => h e.symm
  simp [idxS, Lib.indexByte, f _ _ h1, f _ _ h2, f _ _ h3, f _ _ h4, f _ _ h5]
theorem idx_special (c : UInt8) (w : World) : Calls Tryd.prog 102 #[.string ⟨#[92, 123, 125, 43, 42]⟩, .int .u8 c.toNat] w fun e w' => e = .returned (.int .i64 (idxS c)) ∧ w = w' := by
  refine (Tryd.strings_IndexByte ⟨#[92, 123, 125, 43, 42]⟩ c.toNat w).mono ?_
  rintro e w' ⟨rfl, rfl⟩
  exact ⟨by rw [byte_back]; rfl, rfl⟩

end Go.Proofs.YtddjbfmohibgbaaDoor
