/- Open as two contracts: of a disk that holds records, and of any disk. -/
import Derived.Test.YtdpebdghhgojaaaJLoop
namespace Go.Proofs.Ytdpebdghhgojaaa
open Go.RowKit

/-- A journal was opened with the records L. -/
def OpenGood (fp : Nat → Prop) (b : Nat) (d : DS) (L : List (List UInt8)) (w : World) (r : Ending) (w' : World) : Prop :=
  ∃ (jb : Nat) (vl : Value) (fp' : Nat → Prop), r = .returned (.tuple #[.pointer (some ⟨jb, 0, none⟩), vl, .int .i64 0]) ∧ w.heap.size ≤ jb ∧
    JHdr w' jb b ⟨L.length, bytesOf L, 64 + (enc L).length, false⟩ ∧ Srow w' vl L ∧ (∀ k, Blk vl k → w.heap.size ≤ k ∧ k ≠ jb ∧ ¬ fp' k) ∧ DiskAt w' fp' b d.synced ∧ (∀ k, fp' k → grow fp w w' k ∧ k ≠ jb) ∧ Only fp w w'

theorem map_true_inj {L L' : List (List UInt8)} (h : L.map (fun x => (x, true)) = L'.map (fun x => (x, true))) : L = L' := by
  have := congrArg (List.map Prod.fst) h
  simpa [List.map_map, Function.comp_def] using this

theorem holds_len {c : List UInt8} {L : List (List UInt8)} (h : Holds c L) : (enc L).length = 0 ∨ 64 + (enc L).length ≤ c.length := by
  have := h.pre.length_le
  rw [List.length_drop] at this
  omega

theorem enc_each {L : List (List UInt8)} : ∀ r ∈ L, r.length ≤ (enc L).length := by
  induction L with
  | nil => intro r hr; cases hr
  | cons x L ih =>
    intro r hr
    rw [enc_cons, List.length_append, encR_length]
    rcases List.mem_cons.1 hr with rfl | hr
    · omega
    · have := ih r hr; omega
theorem enc_count (L : List (List UInt8)) : L.length ≤ (enc L).length := by
  induction L with
  | nil => simp
  | cons x L ih => rw [enc_cons, List.length_append, encR_length, List.length_cons]; omega

theorem open_good (fp : Nat → Prop) (b : Nat) (d : DS) (L : List (List UInt8)) (w : World) (hd : DiskAt w fp b d) (hcl : d.calls < 100000) (ho : d.off = false) (hL : Holds d.now L) :
    Calls Try.prog 40 #[.pointer (some ⟨b, 0, none⟩)] w (OpenGood fp b d L w) := by
  refine (open_loop fp b d w hd hcl ho (enc L).length hL.val hL.le (holds_len hL)).mono ?_
  have hit : items d.now (64 + (enc L).length) (64 + (enc L).length + 1) 64 = L.map (fun x => (x, true)) :=
    items_enc d.now _ L 64 _ hL.pre rfl (by have := enc_count L; omega) (fun r hr => by have := enc_each r hr; have := hL.le; omega)
  rintro r w' (⟨L', h1, jb, vl, fp', h2, h3, h4, h5⟩ | ⟨⟨x, hx, hf⟩, _⟩)
  · rw [hit] at h1
    obtain rfl := map_true_inj h1
    exact ⟨jb, vl, fp', h2, h3, h4, h5⟩
  · rw [hit] at hx
    obtain ⟨y, _, rfl⟩ := List.mem_map.1 hx
    cases hf

theorem open_raw (fp : Nat → Prop) (b : Nat) (d : DS) (w : World) (hd : DiskAt w fp b d) (hcl : d.calls < 100000) (ho : d.off = false) :
    Calls Try.prog 40 #[.pointer (some ⟨b, 0, none⟩)] w fun r w' => OpenBad fp b d.synced 11 w r w' ∨ ∃ L, Holds d.now L ∧ OpenGood fp b d L w r w' := by
  obtain ⟨n, hn⟩ : ∃ n, valN d.now 8 = n := ⟨_, rfl⟩
  have hn8 : n < 18446744073709551616 := by have := valN_lt d.now 8; rw [hn] at this; simpa using this
  by_cases hb : 16777216 < n ∨ (0 < n ∧ d.now.length < 64 + n)
  · refine (open_head fp b d w hd hcl ho ?_).mono (fun r w' h => .inl h)
    rw [hn]
    unfold wrap64
    omega
  · refine (open_loop fp b d w hd hcl ho n hn (by omega) (by omega)).mono ?_
    rintro r w' (⟨L', h1, jb, vl, fp', h2, h3, h4, h5⟩ | ⟨_, h⟩)
    · right
      by_cases h0 : n = 0
      · subst h0
        have e : items d.now (64 + 0) (64 + 0 + 1) 64 = [] := by simp [items]
        rw [e] at h1
        obtain rfl : L' = [] := by simpa using h1.symm
        exact ⟨[], ⟨hn, List.nil_prefix, by simp⟩, jb, vl, fp', h2, h3, h4, h5⟩
      · obtain ⟨i1, i2⟩ := items_all d.now (64 + n) (by omega) (64 + n + 1) 64 (by omega) (by omega) (fun x hx => by
          rw [h1] at hx
          obtain ⟨y, _, rfl⟩ := List.mem_map.1 hx
          rfl)
        rw [h1, List.map_map] at i1 i2
        have e : (L'.map (Prod.fst ∘ fun x => (x, true))) = L' := by simp [Function.comp_def]
        rw [e] at i1 i2
        have e2 : (enc L').length = n := by omega
        exact ⟨L', ⟨by rw [hn, e2], i1, by omega⟩, jb, vl, fp', h2, h3, by rw [e2]; exact h4, h5⟩
    · exact .inl h

end Go.Proofs.Ytdpebdghhgojaaa
