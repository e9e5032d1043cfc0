/- How the arguments of the statements are read: slices of integers, of bytes and of pieces, pairs of slices, changes. -/
import Derived.Test.YtddjbfmohibgbaaDoorOpn
import Derived.Test.YtddjbfmohibgbaaDoorNumA
import Derived.Deep.Slices
namespace Go.Proofs.YtddjbfmohibgbaaDoor
open Go.ChangeShapes Go.WideShapes Go.ChangeAt Go.RowKit Go.Deep

theorem wf_rng {n : Int} (h : (Lit.int .i64 n).wf = true) : Rng n := by
  simp [Lit.wf, IntKind.min, IntKind.max, IntKind.signed, IntKind.bits] at h
  unfold Rng
  omega
theorem addr_plain (b off j : Nat) : (⟨b, off, none⟩ : Addr).add j = ⟨b, off + j, none⟩ := by unfold Addr.add; split <;> simp_all

section
variable {H : Type} {enc : TypeId × Value → H} {W : World}

theorem cells4 {base : Nat} {a : Addr} {cs : List Value} (h : W.cells? base a 4 = some cs) : ∃ c0 c1 c2 c3, cs = [c0, c1, c2, c3] ∧ W.cell? (a.add 0) = some c0 ∧ W.cell? (a.add 1) = some c1 ∧ W.cell? (a.add 2) = some c2 ∧ W.cell? (a.add 3) = some c3 := by
  obtain ⟨hb, hl, hc⟩ := World.cells?_some h
  match cs, hl with
  | [c0, c1, c2, c3], _ => exact ⟨c0, c1, c2, c3, rfl, hc 0 (by decide), hc 1 (by decide), hc 2 (by decide), hc 3 (by decide)⟩

theorem open_intsA {fuel : Nat} {a0 : Option Addr} {len cap : Nat} {x : DataW H × List MemPlace} (h : DataW.trod enc Tryd.prog W 0 (fun _ => true) true fuel 22 [.slice a0 len cap] = some x) : ∃ zs, IntsA W (.slice a0 len cap) zs := by
  rcases open_ints Tryd.underlying22 Tryd.underlying3 (by kernel_rfl) h with ⟨hcs, _⟩ | ⟨a, l, c, zs, hcs, _, hl, hm, hz, _, hcell, hwz⟩
  · simp at hcs
    obtain ⟨rfl, rfl, rfl⟩ := hcs
    exact ⟨[], by simp, by simp, .inl ⟨rfl, _, _, rfl⟩⟩
  · simp at hcs
    obtain ⟨rfl, rfl, rfl⟩ := hcs
    by_cases h0 : len = 0
    · subst h0
      exact ⟨[], by simp, by simp, .inl ⟨rfl, _, _, rfl⟩⟩
    have hz' : zs.length = cap := by simpa using hz
    obtain ⟨b, off, sp⟩ := a
    have hsp : sp = none := by simpa [Addr.add] using World.cell?_spot (hcell 0 (by omega))
    subst hsp
    have hl2 : (zs.take len).length = len := by simp; omega
    refine ⟨zs.take len, by unfold maxLen at hm; omega, fun n hn => wf_rng (hwz n (List.mem_of_mem_take hn)), .inr ⟨by omega, b, off, cap, by rw [hl2], World.block_lt_of_cell? W _ (hcell 0 (by omega)), fun i hi => ?_⟩⟩
    have hi' : i < len := by omega
    have e := hcell i (by omega)
    rw [addr_plain] at e
    rw [e]
    have hlt : i < zs.length := by omega
    simp [List.getD, hlt]

theorem open_u8sA {fuel : Nat} {a0 : Option Addr} {len cap : Nat} {x : DataW H × List MemPlace} (h : DataW.trod enc Tryd.prog W 0 (fun _ => true) true fuel 41 [.slice a0 len cap] = some x) : ∃ zs, U8sA W (.slice a0 len cap) zs := by
  rcases open_ints Tryd.underlying41 Tryd.underlying5 (by kernel_rfl) h with ⟨hcs, _⟩ | ⟨a, l, c, zs, hcs, _, hl, hm, hz, _, hcell, hwz⟩
  · simp at hcs
    obtain ⟨rfl, rfl, rfl⟩ := hcs
    exact ⟨[], by simp, .inl ⟨rfl, _, _, rfl⟩⟩
  · simp at hcs
    obtain ⟨rfl, rfl, rfl⟩ := hcs
    by_cases h0 : len = 0
    · subst h0
      exact ⟨[], by simp, .inl ⟨rfl, _, _, rfl⟩⟩
    have hz' : zs.length = cap := by simpa using hz
    obtain ⟨b, off, sp⟩ := a
    have hsp : sp = none := by simpa [Addr.add] using World.cell?_spot (hcell 0 (by omega))
    subst hsp
    have hl2 : ((zs.take len).map fun n => UInt8.ofNat n.toNat).length = len := by simp; omega
    refine ⟨(zs.take len).map fun n => UInt8.ofNat n.toNat, by unfold maxLen at hm; omega, .inr ⟨by omega, b, off, cap, by rw [hl2], World.block_lt_of_cell? W _ (hcell 0 (by omega)), fun i hi => ?_⟩⟩
    have hi' : i < len := by omega
    have e := hcell i (by omega)
    rw [addr_plain] at e
    rw [e]
    have hlt : i < zs.length := by omega
    obtain ⟨c, hc⟩ := bounds_u8 (hwz (zs[i]) (List.getElem_mem hlt))
    simp [List.getD, hlt, hc]

theorem open_pcsA {fuel : Nat} {a0 : Option Addr} {len cap : Nat} {x : DataW H × List MemPlace} (h : DataW.trod enc Tryd.prog W 0 (fun _ => true) true fuel 23 [.slice a0 len cap] = some x) : ∃ l, PcsA W (.slice a0 len cap) l := by
  rcases open_slice Tryd.underlying23 h with ⟨hcs, _⟩ | ⟨a, len', cap', m, n, D, Pl, hcs, _, hl, hm, hmm, _, hx⟩
  · simp at hcs
    obtain ⟨rfl, rfl, rfl⟩ := hcs
    exact ⟨[], .inl ⟨rfl, _, _, rfl⟩, by simp, by simp⟩
  · simp at hcs
    obtain ⟨rfl, rfl, rfl⟩ := hcs
    have hc31 : Tryd.prog.cellsOf 31 = 4 := by kernel_rfl
    have hc3 : Tryd.prog.cellsOf 3 = 1 := by kernel_rfl
    have hc9 : Tryd.prog.cellsOf 9 = 1 := by kernel_rfl
    by_cases h0 : len = 0
    · subst h0
      exact ⟨[], .inl ⟨rfl, _, _, rfl⟩, by simp, by simp⟩
    have key : ∀ i, i < len → ∃ p : Pc, (W.cell? (a.add (i * 4)) = some (.int .i64 p.c) ∧ W.cell? ((a.add (i * 4)).add 1) = some (.int .i64 p.l) ∧ W.cell? ((a.add (i * 4)).add 2) = some (.int .i64 p.m) ∧ W.cell? ((a.add (i * 4)).add 3) = some (.string ⟨p.t.toArray⟩)) ∧
        Rng p.c ∧ Rng p.l ∧ Rng p.m ∧ p.t.length ≤ 9223372036854775807 := by
      intro i hi
      obtain ⟨cs', h1, h2⟩ := hx i (by rw [hmm]; simp; omega)
      rw [hc31] at h1
      obtain ⟨c0, c1, c2, c3, rfl, e0, e1, e2, e3⟩ := cells4 h1
      obtain ⟨xs, n', _, _, _, _, hf⟩ := DataW.trod_struct Tryd.underlying31 h2
      have f0 := hf 0 _ rfl
      have f1 := hf 1 _ rfl
      have f2 := hf 2 _ rfl
      have f3 := hf 3 _ rfl
      simp [hc3, hc9] at f0 f1 f2 f3
      have g : ∀ {t : TypeId} {c : Value} {j : Nat}, DataW.trod enc Tryd.prog W 0 (fun _ => true) true n' t [c] = xs[j]? → j < xs.length → ∃ y, DataW.trod enc Tryd.prog W 0 (fun _ => true) true n' t [c] = some y := fun h hj => ⟨_, h.trans (List.getElem?_eq_getElem hj)⟩
      have hxl : xs.length = 4 := by assumption
      obtain ⟨y0, k0⟩ := g f0 (by omega)
      obtain ⟨y1, k1⟩ := g f1 (by omega)
      obtain ⟨y2, k2⟩ := g f2 (by omega)
      obtain ⟨y3, k3⟩ := g f3 (by omega)
      obtain ⟨n0, r0, _, w0⟩ := DataW.trod_int Tryd.underlying3 k0
      obtain ⟨n1, r1, _, w1⟩ := DataW.trod_int Tryd.underlying3 k1
      obtain ⟨n2, r2, _, w2⟩ := DataW.trod_int Tryd.underlying3 k2
      obtain ⟨s3, r3, _, w3⟩ := DataW.trod_string Tryd.underlying9 k3
      simp at r0 r1 r2 r3
      subst r0 r1 r2 r3
      have z : (a.add (i * 4)).add 0 = a.add (i * 4) := by simp [Addr.add]
      rw [z] at e0
      exact ⟨⟨n0, n1, n2, s3.data.toList⟩, ⟨e0, e1, e2, e3⟩, wf_rng w0, wf_rng w1, wf_rng w2, w3⟩
    have hsp : ∃ b off, a = ⟨b, off, none⟩ := by
      obtain ⟨p, ⟨e0, _⟩, _⟩ := key 0 (by omega)
      obtain ⟨b, off, sp⟩ := a
      have hsp : sp = none := by simpa [Addr.add] using World.cell?_spot e0
      exact ⟨b, off, by rw [hsp]⟩
    obtain ⟨b, off, rfl⟩ := hsp
    haveI : Inhabited Pc := ⟨⟨0, 0, 0, []⟩⟩
    obtain ⟨f, hf⟩ := choose_lt key
    refine ⟨(List.range len).map f, .inr ⟨by simp; omega, b, off, cap, by simp, ?_, fun i hi => ?_⟩, by simp; unfold maxLen at hm; omega, fun y hy => ?_⟩
    · have := (hf 0 (by omega)).1.1
      rw [addr_plain] at this
      exact World.block_lt_of_cell? W _ this
    · have hi' : i < len := by simpa using hi
      obtain ⟨⟨e0, e1, e2, e3⟩, _⟩ := hf i hi'
      rw [addr_plain] at e0
      rw [addr_plain, addr_plain] at e1 e2 e3
      simp only [List.getElem_map, List.getElem_range]
      exact ⟨e0, e1, e2, e3⟩
    · obtain ⟨i, hi, rfl⟩ := List.mem_map.1 hy
      exact (hf i (List.mem_range.1 hi)).2

set_option maxRecDepth 100000 in
theorem open_twoints {v : Value} {d : DataW H} {p : List MemPlace} {base : Nat} (hok : Value.okWide Tryd.prog W .any base 36 v) (h : DataW.Trod enc Tryd.prog W 0 (fun _ => true) true 36 v d p) : ∃ x, TwoInts W v x := by
  obtain ⟨cs, rfl⟩ : ∃ cs, v = .agg cs := by
    simp only [Value.okWide, Tryd.underlying36] at hok
    obtain ⟨cs, h1, _⟩ := hok
    exact ⟨cs, h1⟩
  obtain ⟨fuel, hf⟩ := h
  obtain ⟨xs, m, _, _, hl, hxl, hf⟩ := DataW.trod_array Tryd.underlying36 hf
  have hc36 : Tryd.prog.cellsOf 36 = 2 := by kernel_rfl
  have hc22 : Tryd.prog.cellsOf 22 = 1 := by kernel_rfl
  have hl2 : cs.toList.length = 2 := by have := hl.trans hc36; simpa [Value.cells] using this
  match hcs : cs.toList, hl2 with
  | [c0, c1], _ =>
    have e : (Value.agg cs).cells.toList = [c0, c1] := by simpa [Value.cells] using hcs
    rw [e] at hf
    have f0 := hf 0 (by decide)
    have f1 := hf 1 (by decide)
    simp [hc22] at f0 f1
    have g0 := f0.trans (List.getElem?_eq_getElem (by omega))
    have g1 := f1.trans (List.getElem?_eq_getElem (by omega))
    have hs0 : ∃ a len cap, c0 = .slice a len cap := by
      rcases open_ints Tryd.underlying22 Tryd.underlying3 (by kernel_rfl) g0 with ⟨hc, _⟩ | ⟨a, l, c, zs, hc, _⟩
      · exact ⟨_, _, _, by simpa using hc⟩
      · exact ⟨_, _, _, by simpa using hc⟩
    have hs1 : ∃ a len cap, c1 = .slice a len cap := by
      rcases open_ints Tryd.underlying22 Tryd.underlying3 (by kernel_rfl) g1 with ⟨hc, _⟩ | ⟨a, l, c, zs, hc, _⟩
      · exact ⟨_, _, _, by simpa using hc⟩
      · exact ⟨_, _, _, by simpa using hc⟩
    obtain ⟨a0, l0, k0, rfl⟩ := hs0
    obtain ⟨a1, l1, k1, rfl⟩ := hs1
    obtain ⟨z0, h0⟩ := open_intsA g0
    obtain ⟨z1, h1⟩ := open_intsA g1
    refine ⟨(z0, z1), _, _, ?_, h0, h1⟩
    rw [← Array.toArray_toList (xs := cs), hcs]

set_option maxRecDepth 100000 in
theorem open_edit {v : Value} {d : DataW H} {p : List MemPlace} {base : Nat} (hok : Value.okWide Tryd.prog W .any base 38 v) (h : DataW.Trod enc Tryd.prog W 0 (fun _ => true) true 38 v d p) : ∃ x, EditA v x := by
  obtain ⟨cs, rfl⟩ : ∃ cs, v = .agg cs := by
    simp only [Value.okWide, Tryd.underlying38] at hok
    obtain ⟨cs, h1, _⟩ := hok
    exact ⟨cs, h1⟩
  obtain ⟨fuel, hf⟩ := h
  obtain ⟨xs, m, _, _, hl, hxl, hf⟩ := DataW.trod_struct Tryd.underlying38 hf
  have hc38 : Tryd.prog.cellsOf 38 = 3 := by kernel_rfl
  have hc3 : Tryd.prog.cellsOf 3 = 1 := by kernel_rfl
  have hc5 : Tryd.prog.cellsOf 5 = 1 := by kernel_rfl
  have hc9 : Tryd.prog.cellsOf 9 = 1 := by kernel_rfl
  have hl2 : cs.toList.length = 3 := by have := hl.trans hc38; simpa [Value.cells] using this
  match hcs : cs.toList, hl2 with
  | [c0, c1, c2], _ =>
    have e : (Value.agg cs).cells.toList = [c0, c1, c2] := by simpa [Value.cells] using hcs
    rw [e] at hf
    have f0 := hf 0 _ rfl
    have f1 := hf 1 _ rfl
    have f2 := hf 2 _ rfl
    simp [hc3, hc5, hc9] at f0 f1 f2
    have hx3 : xs.length = 3 := by simpa using hxl
    obtain ⟨n0, r0, _, w0⟩ := DataW.trod_int Tryd.underlying3 (f0.trans (List.getElem?_eq_getElem (by omega)))
    obtain ⟨n1, r1, _, w1⟩ := DataW.trod_int Tryd.underlying5 (f1.trans (List.getElem?_eq_getElem (by omega)))
    obtain ⟨s2, r2, _, w2⟩ := DataW.trod_string Tryd.underlying9 (f2.trans (List.getElem?_eq_getElem (by omega)))
    simp at r0 r1 r2
    subst r0 r1 r2
    obtain ⟨c, rfl⟩ := bounds_u8 w1
    refine ⟨(n0, c, s2.data.toList), ?_, wf_rng w0, ?_⟩
    · rw [← Array.toArray_toList (xs := cs), hcs]
    · unfold maxLen at w2
      show ((s2.data.toList.length : Nat) : Int) ≤ _
      simp only [Array.length_toList]
      have : s2.data.size = s2.size := rfl
      omega
end
end Go.Proofs.YtddjbfmohibgbaaDoor
