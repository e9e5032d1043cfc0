/- How the arguments of the statements are read: acts, integers, pairs, strings. -/
import Derived.Test.YtdpebdghhgojaaaRows
import Derived.Test.YtdpebdghhgojaaaCrash
import Derived.ProofKit
import Derived.OpenShut
import Derived.ShutString
import Derived.ChangeOld
import Derived.Deep.Slices
namespace Go.Proofs.Ytdpebdghhgojaaa
open Go.ChangeShapes Go.WideShapes Go.ChangeAt Go.RowKit Go.Deep

theorem Try.own : ownKnob Try.prog.godebug = none := by kernel_rfl
theorem Try.laidOut : laidOutB Try.prog = true := by kernel_rfl

/-- An act: its kind, offset, number and text. -/
abbrev Act' := Int × Int × Int × ByteArray

def ActOk (a : Act') : Prop := (-9223372036854775808 ≤ a.1 ∧ a.1 ≤ 9223372036854775807) ∧ (-9223372036854775808 ≤ a.2.1 ∧ a.2.1 ≤ 9223372036854775807) ∧ (-9223372036854775808 ≤ a.2.2.1 ∧ a.2.2.1 ≤ 9223372036854775807) ∧ a.2.2.2.size ≤ 9223372036854775807

/-- v is a slice of the acts l. -/
def Acts (w : World) (v : Value) (l : List Act') : Prop :=
  (l = [] ∧ ∃ ao cap, v = .slice ao 0 cap) ∨ (0 < l.length ∧ ∃ b off cap, v = .slice (some ⟨b, off, none⟩) l.length cap ∧ l.length ≤ 9223372036854775807 ∧
    ∀ i (h : i < l.length), w.cell? ⟨b, off + i * 4, none⟩ = some (.int .i64 l[i].1) ∧ w.cell? ⟨b, off + i * 4 + 1, none⟩ = some (.int .i64 l[i].2.1) ∧
      w.cell? ⟨b, off + i * 4 + 2, none⟩ = some (.int .i64 l[i].2.2.1) ∧ w.cell? ⟨b, off + i * 4 + 3, none⟩ = some (.string l[i].2.2.2) ∧ ActOk l[i])

theorem wf_rng {n : Int} (h : (Lit.int .i64 n).wf = true) : -9223372036854775808 ≤ n ∧ n ≤ 9223372036854775807 := by
  simp [Lit.wf, IntKind.min, IntKind.max, IntKind.signed, IntKind.bits] at h
  omega

theorem addr_plain (b off j : Nat) : (⟨b, off, none⟩ : Addr).add j = ⟨b, off + j, none⟩ := by unfold Addr.add; split <;> simp_all

section
variable {H : Type} {enc : TypeId × Value → H} {W : World}

theorem cells4 {base : Nat} {a : Addr} {cs : List Value} (h : W.cells? base a 4 = some cs) : ∃ c0 c1 c2 c3, cs = [c0, c1, c2, c3] ∧ W.cell? (a.add 0) = some c0 ∧ W.cell? (a.add 1) = some c1 ∧ W.cell? (a.add 2) = some c2 ∧ W.cell? (a.add 3) = some c3 := by
  obtain ⟨hb, hl, hc⟩ := World.cells?_some h
  match cs, hl with
  | [c0, c1, c2, c3], _ => exact ⟨c0, c1, c2, c3, rfl, hc 0 (by decide), hc 1 (by decide), hc 2 (by decide), hc 3 (by decide)⟩

theorem open_acts {fuel : Nat} {a0 : Option Addr} {len cap : Nat} {x : DataW H × List MemPlace} (h : DataW.trod enc Try.prog W 0 (fun _ => true) true fuel 22 [.slice a0 len cap] = some x) : ∃ l, Acts W (.slice a0 len cap) l := by
  rcases open_slice Try.underlying22 h with ⟨hcs, _⟩ | ⟨a, len', cap', m, n, D, Pl, hcs, _, hl, hm, hmm, _, hx⟩
  · simp at hcs
    obtain ⟨rfl, rfl, rfl⟩ := hcs
    exact ⟨[], .inl ⟨rfl, _, _, rfl⟩⟩
  · simp at hcs
    obtain ⟨rfl, rfl, rfl⟩ := hcs
    have hc33 : Try.prog.cellsOf 33 = 4 := by kernel_rfl
    have hc3 : Try.prog.cellsOf 3 = 1 := by kernel_rfl
    have hc9 : Try.prog.cellsOf 9 = 1 := by kernel_rfl
    by_cases h0 : len = 0
    · subst h0
      exact ⟨[], .inl ⟨rfl, _, _, rfl⟩⟩
    have key : ∀ i, i < len → ∃ p : Act', W.cell? (a.add (i * 4)) = some (.int .i64 p.1) ∧ W.cell? ((a.add (i * 4)).add 1) = some (.int .i64 p.2.1) ∧ W.cell? ((a.add (i * 4)).add 2) = some (.int .i64 p.2.2.1) ∧ W.cell? ((a.add (i * 4)).add 3) = some (.string p.2.2.2) ∧ ActOk p := by
      intro i hi
      obtain ⟨cs', h1, h2⟩ := hx i (by rw [hmm]; simp; omega)
      rw [hc33] at h1
      obtain ⟨c0, c1, c2, c3, rfl, e0, e1, e2, e3⟩ := cells4 h1
      obtain ⟨xs, n', _, _, _, _, hf⟩ := DataW.trod_struct Try.underlying33 h2
      have f0 := hf 0 _ rfl
      have f1 := hf 1 _ rfl
      have f2 := hf 2 _ rfl
      have f3 := hf 3 _ rfl
      simp [hc3, hc9] at f0 f1 f2 f3
      have g : ∀ {t : TypeId} {c : Value} {j : Nat}, DataW.trod enc Try.prog W 0 (fun _ => true) true n' t [c] = xs[j]? → j < xs.length → ∃ y, DataW.trod enc Try.prog W 0 (fun _ => true) true n' t [c] = some y := fun h hj => ⟨_, h.trans (List.getElem?_eq_getElem hj)⟩
      have hxl : xs.length = 4 := by assumption
      obtain ⟨y0, k0⟩ := g f0 (by omega)
      obtain ⟨y1, k1⟩ := g f1 (by omega)
      obtain ⟨y2, k2⟩ := g f2 (by omega)
      obtain ⟨y3, k3⟩ := g f3 (by omega)
      obtain ⟨n0, r0, _, w0⟩ := DataW.trod_int Try.underlying3 k0
      obtain ⟨n1, r1, _, w1⟩ := DataW.trod_int Try.underlying3 k1
      obtain ⟨n2, r2, _, w2⟩ := DataW.trod_int Try.underlying3 k2
      obtain ⟨s3, r3, _, w3⟩ := DataW.trod_string Try.underlying9 k3
      simp at r0 r1 r2 r3
      subst r0 r1 r2 r3
      have z : (a.add (i * 4)).add 0 = a.add (i * 4) := by simp [Addr.add]
      rw [z] at e0
      exact ⟨(n0, n1, n2, s3), e0, e1, e2, e3, wf_rng w0, wf_rng w1, wf_rng w2, w3⟩
    have hsp : ∃ b off, a = ⟨b, off, none⟩ := by
      obtain ⟨p, e0, _⟩ := key 0 (by omega)
      obtain ⟨b, off, sp⟩ := a
      have hsp : sp = none := by simpa [Addr.add] using World.cell?_spot e0
      exact ⟨b, off, by rw [hsp]⟩
    obtain ⟨b, off, rfl⟩ := hsp
    haveI : Inhabited Act' := ⟨(0, 0, 0, ByteArray.empty)⟩
    obtain ⟨f, hf⟩ := choose_lt key
    refine ⟨(List.range len).map f, .inr ⟨by simp; omega, b, off, cap, by simp, by simp; unfold maxLen at hm; omega, fun i hi => ?_⟩⟩
    have hi' : i < len := by simpa using hi
    obtain ⟨e0, e1, e2, e3, e4⟩ := hf i hi'
    rw [addr_plain] at e0
    rw [addr_plain, addr_plain] at e1 e2 e3
    simp only [List.getElem_map, List.getElem_range]
    exact ⟨e0, e1, e2, e3, e4⟩

theorem open_intsI {fuel : Nat} {a0 : Option Addr} {len cap : Nat} {x : DataW H × List MemPlace} (h : DataW.trod enc Try.prog W 0 (fun _ => true) true fuel 36 [.slice a0 len cap] = some x) : ∃ zs, Ints W (.slice a0 len cap) zs := by
  rcases open_ints Try.underlying36 Try.underlying3 (by kernel_rfl) h with ⟨hcs, _⟩ | ⟨a, l, c, zs, hcs, _, hl, hm, hz, _, hcell, hwz⟩
  · simp at hcs
    obtain ⟨rfl, rfl, rfl⟩ := hcs
    exact ⟨[], .inl ⟨rfl, _, _, rfl⟩⟩
  · simp at hcs
    obtain ⟨rfl, rfl, rfl⟩ := hcs
    by_cases h0 : len = 0
    · subst h0
      exact ⟨[], .inl ⟨rfl, _, _, rfl⟩⟩
    have hz' : zs.length = cap := by simpa using hz
    obtain ⟨b, off, sp⟩ := a
    have hsp : sp = none := by simpa [Addr.add] using World.cell?_spot (hcell 0 (by omega))
    subst hsp
    have hl2 : (zs.take len).length = len := by simp; omega
    refine ⟨zs.take len, .inr ⟨by omega, b, off, cap, by rw [hl2], by unfold maxLen at hm; omega, fun i hi => ?_⟩⟩
    have hi' : i < len := by omega
    have e := hcell i (by omega)
    rw [addr_plain] at e
    rw [e]
    simp [List.getD, hi']

set_option maxRecDepth 100000 in
theorem open_pair {fuel : Nat} {cs : List Value} {x : DataW H × List MemPlace} (h : DataW.trod enc Try.prog W 0 (fun _ => true) true fuel 42 cs = some x) :
    ∃ a b : Int, cs = [.int .i64 a, .int .i64 b] ∧ (-9223372036854775808 ≤ a ∧ a ≤ 9223372036854775807) ∧ (-9223372036854775808 ≤ b ∧ b ≤ 9223372036854775807) := by
  obtain ⟨xs, m, _, _, hl, hxl, hf⟩ := DataW.trod_array Try.underlying42 h
  have hc42 : Try.prog.cellsOf 42 = 2 := by kernel_rfl
  have hc3 : Try.prog.cellsOf 3 = 1 := by kernel_rfl
  have hl2 : cs.length = 2 := hl.trans hc42
  clear hl hc42
  match cs, hl2 with
  | [c0, c1], _ =>
    have f0 := hf 0 (by decide)
    have f1 := hf 1 (by decide)
    simp [hc3] at f0 f1
    obtain ⟨n0, r0, _, w0⟩ := DataW.trod_int Try.underlying3 (f0.trans (List.getElem?_eq_getElem (by omega)))
    obtain ⟨n1, r1, _, w1⟩ := DataW.trod_int Try.underlying3 (f1.trans (List.getElem?_eq_getElem (by omega)))
    simp at r0 r1
    subst r0 r1
    exact ⟨n0, n1, rfl, wf_rng w0, wf_rng w1⟩
end
end Go.Proofs.Ytdpebdghhgojaaa
