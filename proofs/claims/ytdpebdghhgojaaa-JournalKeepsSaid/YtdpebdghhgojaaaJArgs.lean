/- How the journal laws' arguments are read: slices of strings, of bytes, of 32-bit numbers. -/
import Derived.Test.YtdpebdghhgojaaaOpen2
import Derived.Test.YtdpebdghhgojaaaJMem
import Derived.SliceStrings
namespace Go.Proofs.Ytdpebdghhgojaaa
open Go.ChangeShapes Go.WideShapes Go.ChangeAt Go.RowKit Go.Deep

/-- v is a slice of the strings l. -/
def StrsA (w : World) (v : Value) (l : List (List UInt8)) : Prop := Strs w v l ∧ (∀ r ∈ l, r.length ≤ 9223372036854775807) ∧ l.length ≤ 9223372036854775807

/-- v is a slice of the numbers zs, of the kind k. -/
def KInts (k : IntKind) (w : World) (v : Value) (zs : List Int) : Prop :=
  ((zs = [] ∧ ∃ ao cap, v = .slice ao 0 cap) ∨ (0 < zs.length ∧ ∃ b off cap, v = .slice (some ⟨b, off, none⟩) zs.length cap ∧ zs.length ≤ 9223372036854775807 ∧ ∀ i, i < zs.length → w.cell? ⟨b, off + i, none⟩ = some (.int k (zs.getD i 0)))) ∧ ∀ n ∈ zs, (Lit.int k n).wf = true
abbrev U8s := KInts .u8
abbrev U32s := KInts .u32

theorem KInts.other {S : Nat → Prop} {k : IntKind} {w w' : World} {v : Value} {zs : List Int} (h : KInts k w v zs) (ho : Only S w w') (hn : ∀ b off cap n, v = .slice (some ⟨b, off, none⟩) n cap → ¬ S b) : KInts k w' v zs := by
  refine ⟨?_, h.2⟩
  rcases h.1 with h | ⟨h0, b, off, cap, hv, hm, hc⟩
  · exact .inl h
  · exact .inr ⟨h0, b, off, cap, hv, hm, fun i hi => (ho.cell (World.block_lt_of_cell? w _ (hc i hi)) (hn b off cap _ hv)).trans (hc i hi)⟩
theorem KInts.form {k : IntKind} {w : World} {v : Value} {zs : List Int} (h : KInts k w v zs) : ∃ ao cap, v = .slice ao zs.length cap ∧ zs.length ≤ 9223372036854775807 := by
  rcases h.1 with ⟨rfl, ao, cap, rfl⟩ | ⟨_, b, off, cap, rfl, hm, _⟩
  · exact ⟨ao, cap, rfl, by simp⟩
  · exact ⟨_, cap, rfl, hm⟩

section
variable {H : Type} {enc : TypeId × Value → H} {W : World}

theorem open_strsI {fuel : Nat} {a0 : Option Addr} {len cap : Nat} {x : DataW H × List MemPlace} (h : DataW.trod enc Try.prog W 0 (fun _ => true) true fuel 64 [.slice a0 len cap] = some x) : ∃ l, StrsA W (.slice a0 len cap) l := by
  rcases open_strings Try.underlying64 Try.underlying9 (by kernel_rfl) h with ⟨hcs, _⟩ | ⟨a, l, c, ss, hcs, _, hl, hm, hz, _, hcell, hwz⟩
  · simp at hcs
    obtain ⟨rfl, rfl, rfl⟩ := hcs
    exact ⟨[], .inl ⟨rfl, _, _, rfl⟩, by simp, by simp⟩
  · simp at hcs
    obtain ⟨rfl, rfl, rfl⟩ := hcs
    by_cases h0 : len = 0
    · subst h0
      exact ⟨[], .inl ⟨rfl, _, _, rfl⟩, by simp, by simp⟩
    have hz' : ss.length = cap := by simpa using hz
    obtain ⟨b, off, sp⟩ := a
    have hsp : sp = none := by simpa [Addr.add] using World.cell?_spot (hcell 0 (by omega))
    subst hsp
    have hl2 : ((ss.take len).map fun s : ByteArray => s.data.toList).length = len := by simp; omega
    refine ⟨(ss.take len).map fun s : ByteArray => s.data.toList, .inr ⟨by omega, b, off, cap, by rw [hl2], ?_, fun i hi => ?_⟩, ?_, by rw [hl2]; unfold maxLen at hm; omega⟩
    · exact World.block_lt_of_cell? W _ (hcell 0 (by omega))
    · have hi' : i < len := by omega
      have e := hcell i (by omega)
      rw [addr_plain] at e
      rw [e]
      have hlt : i < ss.length := by omega
      simp [List.getD, SV, hlt]
    · intro r hr
      obtain ⟨s, hs, rfl⟩ := List.mem_map.1 hr
      have := hwz s (List.mem_of_mem_take hs)
      unfold maxLen at this
      simpa using this

theorem open_kints {t e : TypeId} {k : IntKind} {fuel : Nat} {a0 : Option Addr} {len cap : Nat} {x : DataW H × List MemPlace} (ht : Try.prog.underlying t = some (.slice e)) (he : Try.prog.underlying e = some (.int k)) (hc : Try.prog.cellsOf e = 1)
    (h : DataW.trod enc Try.prog W 0 (fun _ => true) true fuel t [.slice a0 len cap] = some x) : ∃ zs, KInts k W (.slice a0 len cap) zs := by
  rcases open_ints ht he hc h with ⟨hcs, _⟩ | ⟨a, l, c, zs, hcs, _, hl, hm, hz, _, hcell, hwz⟩
  · simp at hcs
    obtain ⟨rfl, rfl, rfl⟩ := hcs
    exact ⟨[], .inl ⟨rfl, _, _, rfl⟩, by simp⟩
  · simp at hcs
    obtain ⟨rfl, rfl, rfl⟩ := hcs
    by_cases h0 : len = 0
    · subst h0
      exact ⟨[], .inl ⟨rfl, _, _, rfl⟩, by simp⟩
    have hz' : zs.length = cap := by simpa using hz
    obtain ⟨b, off, sp⟩ := a
    have hsp : sp = none := by simpa [Addr.add] using World.cell?_spot (hcell 0 (by omega))
    subst hsp
    have hl2 : (zs.take len).length = len := by simp; omega
    refine ⟨zs.take len, .inr ⟨by omega, b, off, cap, by rw [hl2], by unfold maxLen at hm; omega, fun i hi => ?_⟩, fun n hn => hwz n (List.mem_of_mem_take hn)⟩
    have hi' : i < len := by omega
    have e := hcell i (by omega)
    rw [addr_plain] at e
    rw [e]
    simp [List.getD, hi']

theorem open_u8sI {fuel : Nat} {a0 : Option Addr} {len cap : Nat} {x : DataW H × List MemPlace} (h : DataW.trod enc Try.prog W 0 (fun _ => true) true fuel 56 [.slice a0 len cap] = some x) : ∃ zs, U8s W (.slice a0 len cap) zs := open_kints Try.underlying56 Try.underlying5 (by kernel_rfl) h
theorem open_u32sI {fuel : Nat} {a0 : Option Addr} {len cap : Nat} {x : DataW H × List MemPlace} (h : DataW.trod enc Try.prog W 0 (fun _ => true) true fuel 81 [.slice a0 len cap] = some x) : ∃ zs, U32s W (.slice a0 len cap) zs := open_kints Try.underlying81 Try.underlying50 (by kernel_rfl) h
end
end Go.Proofs.Ytdpebdghhgojaaa
