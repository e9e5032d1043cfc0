/- Plain laws on contents: what a crash keeps, and which bytes it may change. No program is looked at. -/
import Derived.Test.YtdpebdghhgojaaaCrashes
namespace Go.Proofs.Ytdpebdghhgojaaa
open Go.RowKit

theorem parts_ge : ∀ (n off : Nat) (s : List UInt8), s.length ≤ n → ∀ p ∈ parts off s, off ≤ p.1 := by
  intro n
  induction n with
  | zero => intro off s h; obtain rfl : s = [] := List.eq_nil_of_length_eq_zero (by omega); simp [parts_nil]
  | succ n ih =>
    intro off s h p hp
    by_cases h0 : 0 < s.length
    · have hm := Nat.mod_lt off (show 64 > 0 by omega)
      rw [parts_cons off s h0] at hp
      rcases List.mem_cons.1 hp with rfl | hp
      · exact Nat.le_refl _
      · have := ih _ _ (by simp; omega) p hp
        omega
    · obtain rfl : s = [] := List.eq_nil_of_length_eq_zero (by omega)
      simp [parts_nil] at hp

theorem parts_all (P : UInt8 → Prop) : ∀ (n off : Nat) (s : List UInt8), s.length ≤ n → (∀ c ∈ s, P c) → ∀ p ∈ parts off s, ∀ c ∈ p.2, P c := by
  intro n
  induction n with
  | zero => intro off s h _; obtain rfl : s = [] := List.eq_nil_of_length_eq_zero (by omega); simp [parts_nil]
  | succ n ih =>
    intro off s h hs p hp
    by_cases h0 : 0 < s.length
    · have hm := Nat.mod_lt off (show 64 > 0 by omega)
      rw [parts_cons off s h0] at hp
      rcases List.mem_cons.1 hp with rfl | hp
      · exact fun c hc => hs c (List.mem_of_mem_take hc)
      · exact ih _ _ (by simp; omega) (fun c hc => hs c (List.mem_of_mem_drop hc)) p hp
    · obtain rfl : s = [] := List.eq_nil_of_length_eq_zero (by omega)
      simp [parts_nil] at hp

theorem put_take (c : List UInt8) (off : Nat) (s : List UInt8) (n : Nat) (h1 : n ≤ c.length) (h2 : n ≤ off) : (put c off s).take n = c.take n := by
  unfold put
  by_cases h : off ≤ (c ++ List.replicate (off + s.length - c.length) (0 : UInt8)).length
  · rw [List.take_append_of_le_length (by rw [List.length_take]; omega), List.take_take, Nat.min_eq_left h2, List.take_append_of_le_length h1]
  · simp at h
    omega

theorem crashF_prefix (zs : List Int) (n : Nat) : ∀ (ps : List (Nat × List UInt8)) (c : List UInt8) (k : Nat), n ≤ c.length → (∀ p ∈ ps, n ≤ p.1) → (crashF zs c k ps).take n = c.take n ∧ n ≤ (crashF zs c k ps).length
  | [], _, _, h, _ => ⟨rfl, h⟩
  | p :: ps, c, k, h, hp => by
    simp only [crashF]
    by_cases hk : keeps zs k = true
    · rw [if_pos hk]
      have h1 := hp p List.mem_cons_self
      obtain ⟨i1, i2⟩ := crashF_prefix zs n ps (put c p.1 p.2) (k + 1) (by rw [length_put]; omega) (fun q hq => hp q (List.mem_cons_of_mem _ hq))
      exact ⟨i1.trans (put_take c p.1 p.2 n h h1), i2⟩
    · rw [if_neg hk]
      exact crashF_prefix zs n ps c (k + 1) h (fun q hq => hp q (List.mem_cons_of_mem _ hq))

/-- A byte of put. -/
theorem put_get (c : List UInt8) (off : Nat) (s : List UInt8) (i : Nat) (hi : i < (put c off s).length) :
    (off ≤ i ∧ i < off + s.length ∧ ∃ h : i - off < s.length, (put c off s)[i] = s[i - off]) ∨ ((i < off ∨ off + s.length ≤ i) ∧ ((∃ h : i < c.length, (put c off s)[i] = c[i]) ∨ (c.length ≤ i ∧ (put c off s)[i] = 0))) := by
  have hl := length_put c off s
  have hlt : ((c ++ List.replicate (off + s.length - c.length) (0 : UInt8)).take off).length = off := by simp; omega
  have hq : (put c off s)[i]? = some (put c off s)[i] := List.getElem?_eq_getElem hi
  by_cases h1 : i < off
  · refine .inr ⟨.inl h1, ?_⟩
    have e : (put c off s)[i]? = (c ++ List.replicate (off + s.length - c.length) (0 : UInt8))[i]? := by
      unfold put
      rw [List.getElem?_append_left (by omega), List.getElem?_take, if_pos h1]
    rw [e] at hq
    by_cases h2 : i < c.length
    · rw [List.getElem?_append_left h2, List.getElem?_eq_getElem h2] at hq
      exact .inl ⟨h2, (Option.some.inj hq).symm⟩
    · rw [List.getElem?_append_right (by omega), List.getElem?_replicate, if_pos (by omega)] at hq
      exact .inr ⟨by omega, (Option.some.inj hq).symm⟩
  · by_cases h2 : i < off + s.length
    · have h3 : i - off < s.length := by omega
      refine .inl ⟨by omega, h2, h3, ?_⟩
      have e : (put c off s)[i]? = s[i - off]? := by
        unfold put
        rw [List.getElem?_append_right (by omega), hlt, List.getElem?_append_left h3]
      rw [e, List.getElem?_eq_getElem h3] at hq
      exact (Option.some.inj hq).symm
    · refine .inr ⟨.inr (by omega), .inl ?_⟩
      have h4 : i < c.length := by omega
      have e : (put c off s)[i]? = c[i]? := by
        unfold put
        rw [List.getElem?_append_right (by omega), hlt, List.getElem?_append_right (by omega), List.getElem?_drop, List.getElem?_append_left (by omega)]
        congr 1
        omega
      rw [e, List.getElem?_eq_getElem h4] at hq
      exact ⟨h4, (Option.some.inj hq).symm⟩

/-- Each byte of the contents c is that of a, or v in the piece of length n from off on, or a zero behind a. -/
def Bytes (a : List UInt8) (off n : Nat) (v : UInt8) (c : List UInt8) : Prop :=
  a.length ≤ c.length ∧ c.length ≤ max a.length (off + n) ∧ ∀ i (h : i < c.length), (∃ h2 : i < a.length, c[i] = a[i]) ∨ (off ≤ i ∧ i < off + n ∧ c[i] = v) ∨ (a.length ≤ i ∧ c[i] = 0)

theorem Bytes.put {a : List UInt8} {off n : Nat} {v : UInt8} {c : List UInt8} (h : Bytes a off n v c) (p : Nat) (s : List UInt8) (h1 : off ≤ p) (h2 : p + s.length ≤ off + n) (hs : ∀ x ∈ s, x = v) : Bytes a off n v (put c p s) := by
  obtain ⟨g1, g2, g3⟩ := h
  have hl := length_put c p s
  refine ⟨by omega, by omega, fun i hi => ?_⟩
  rcases put_get c p s i hi with ⟨e1, e2, e3, e4⟩ | ⟨_, ⟨e3, e4⟩ | ⟨e3, e4⟩⟩
  · exact .inr (.inl ⟨by omega, by omega, by rw [e4]; exact hs _ (List.getElem_mem _)⟩)
  · rw [e4]; exact g3 i e3
  · exact .inr (.inr ⟨by omega, e4⟩)

theorem crashF_bytes (zs : List Int) (a : List UInt8) (off n : Nat) (v : UInt8) : ∀ (ps : List (Nat × List UInt8)) (c : List UInt8) (k : Nat), Bytes a off n v c → (∀ p ∈ ps, off ≤ p.1 ∧ p.1 + p.2.length ≤ off + n ∧ ∀ x ∈ p.2, x = v) → Bytes a off n v (crashF zs c k ps)
  | [], _, _, h, _ => h
  | p :: ps, c, k, h, hp => by
    simp only [crashF]
    obtain ⟨q1, q2, q3⟩ := hp p List.mem_cons_self
    by_cases hk : keeps zs k = true
    · rw [if_pos hk]
      exact crashF_bytes zs a off n v ps _ (k + 1) (h.put p.1 p.2 q1 q2 q3) (fun q hq => hp q (List.mem_cons_of_mem _ hq))
    · rw [if_neg hk]
      exact crashF_bytes zs a off n v ps c (k + 1) h (fun q hq => hp q (List.mem_cons_of_mem _ hq))

/-- The contents behind a crash of a disk whose synced contents are a, and to which n bytes v were then written. -/
theorem crash_bytes (zs : List Int) (a : List UInt8) (off n : Nat) (v : UInt8) : Bytes a off n v (crashF zs a 0 (parts off (List.replicate n v))) := by
  refine crashF_bytes zs a off n v _ a 0 ⟨Nat.le_refl _, Nat.le_max_left _ _, fun i hi => .inl ⟨hi, rfl⟩⟩ (fun p hp => ⟨parts_ge _ _ _ (Nat.le_refl _) p hp, ?_, parts_all (· = v) _ _ _ (Nat.le_refl _) (fun c hc => (List.mem_replicate.1 hc).2) p hp⟩)
  have := (parts_each _ off (List.replicate n v) (Nat.le_refl _)).1 p hp
  simpa using this

end Go.Proofs.Ytdpebdghhgojaaa
