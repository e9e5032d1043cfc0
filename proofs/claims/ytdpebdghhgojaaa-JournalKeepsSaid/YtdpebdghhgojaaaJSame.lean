/- The walks of Same, Many and short. -/
import Derived.Test.YtdpebdghhgojaaaJRef
namespace Go.Proofs.Ytdpebdghhgojaaa
open Go.RowKit

theorem same_len (va vb : Value) (a b : List (List UInt8)) (w : World) (ha : Strs w va a) (hb : Strs w vb b) (hl : (a.length : Int) ≠ b.length) :
    Calls Try.prog 47 #[va, vb] w fun e w' => e = .returned (.bool false) ∧ w = w' := by
  obtain ⟨aa, ca, rfl⟩ := ha.form
  obtain ⟨ab, cb, rfl⟩ := hb.form
  have h1 : ((a.length : Int) != b.length) = true := by simpa using hl
  have h2 : ((a.length : Nat) != b.length) = true := by simp; omega
  clear hl ha hb
  go_enter Try.func47, Try.ntmps47
  go_wp2
  go_ret
  exact ⟨rfl, rfl⟩

def SamePost (w : World) (e : Ending) (w' : World) : Prop := e = .returned (.bool true) ∧ Only Nob w w'

theorem strs_at {w : World} {v : Value} {l : List (List UInt8)} {k : Nat} (h : Strs w v l) (hk : k < l.length) : ∃ b off cap, v = .slice (some ⟨b, off, none⟩) l.length cap ∧ w.cell? ⟨b, off + k, none⟩ = some (SV l[k]) := by
  rcases h with ⟨rfl, _⟩ | ⟨_, b, off, cap, hv, _, hc⟩
  · simp at hk
  · exact ⟨b, off, cap, hv, hc k hk⟩

set_option maxRecDepth 100000 in
set_option maxHeartbeats 1000000 in
theorem same_yes (va vb : Value) (a : List (List UInt8)) (w : World) (ha : Strs w va a) (hb : Strs w vb a) (hl : a.length ≤ 1000000000) :
    Calls Try.prog 47 #[va, vb] w (SamePost w) := by
  have hA := Lib.hid ha
  have hB := Lib.hid hb
  obtain ⟨aa, ca, rfl⟩ := ha.form
  obtain ⟨ab, cb, rfl⟩ := hb.form
  clear ha hb
  go_enter Try.func47, Try.ntmps47
  go_wp2
  go_loopw [5] (fun iv wr => ∃ k : Nat, iv = .int .i64 k ∧ k ≤ a.length ∧ Only Nob w wr) (fun iv _ => a.length - (intOf iv).toNat)
  case atStart => exact ⟨0, rfl, Nat.zero_le _, Only.refl _ _⟩
  case round =>
    obtain ⟨k, rfl, g1, g2⟩ := hrel
    by_cases hk : k < a.length
    · obtain ⟨b1, o1, c1, e1, q1⟩ := strs_at (hA.out.other g2 (fun _ _ _ _ _ h => h)) hk
      obtain ⟨b2, o2, c2, e2, q2⟩ := strs_at (hB.out.other g2 (fun _ _ _ _ _ h => h)) hk
      simp only [Value.slice.injEq] at e1 e2
      obtain ⟨rfl, _, rfl⟩ := e1
      obtain ⟨rfl, _, rfl⟩ := e2
      unfold SV at q1 q2
      have h0 : (0 : Int) ≤ (k : Int) := by omega
      have hk2 : (k : Int) < (a.length : Int) := by omega
      generalize a[k] = r at q1 q2
      go_wp2
      go_region_held3 (fun w' => w'.cell? ⟨b1, o1 + k, none⟩ = some (.string ⟨r.toArray⟩) ∧ w'.cell? ⟨b2, o2 + k, none⟩ = some (.string ⟨r.toArray⟩)) (first | exact ⟨q1, q2⟩ | go_keep) (fail)
      go_wp2
      go_roundw
      case rel => exact ⟨k + 1, by simp, hk, g2.trans (Only.drew _ _) (fun _ _ h => h)⟩
      case measure => simp [intOf]; omega
    · go_wp2
      go_ret
      exact ⟨by simp, g2⟩

theorem many_any (jb db : Nat) (js : JS) (w : World) (h : JHdr w jb db js) : Calls Try.prog 45 #[.pointer (some ⟨jb, 0, none⟩)] w fun e w' => e = .returned (.int .i64 js.many) ∧ w = w' := by
  obtain ⟨c0, c1, c2, c3, c4⟩ := h.cells
  go_enter Try.func45, Try.ntmps45
  go_wp2
  go_ret
  exact ⟨rfl, rfl⟩

theorem str_list (s : ByteArray) (l : List UInt8) (h : s.data.toList = l) : s = ⟨l.toArray⟩ := by
  cases s with
  | mk d => simp at h; rw [← h]

theorem short_any (s : ByteArray) (w : World) (hs : s.size ≤ 9223372036854775807) : Calls Try.prog 43 #[.string s] w fun e w' => e = .returned (SV (s.data.toList.take 200)) ∧ w = w' := by
  have hl : s.data.toList.length = s.size := by simp
  by_cases h : s.size ≤ 200
  · have e : s = ⟨(s.data.toList.take 200).toArray⟩ := str_list s _ (by rw [List.take_of_length_le (by omega)])
    have E := Lib.hid e
    clear e hl
    go_enter Try.func43, Try.ntmps43
    go_wp2
    go_ret
    refine ⟨?_, rfl⟩
    show Ending.returned (.string s) = _
    exact congrArg (fun x : ByteArray => Ending.returned (.string x)) E.out
  · have e : s.extract 0 200 = ⟨(s.data.toList.take 200).toArray⟩ := str_list _ _ (by rw [toList_extract]; simp)
    have E := Lib.hid e
    clear e hl
    go_enter Try.func43, Try.ntmps43
    go_wp2
    go_ret
    refine ⟨?_, rfl⟩
    show Ending.returned (.string (s.extract 0 200)) = _
    exact congrArg (fun x : ByteArray => Ending.returned (.string x)) E.out

theorem short_SV (l : List UInt8) (w : World) (hs : l.length ≤ 9223372036854775807) : Calls Try.prog 43 #[SV l] w fun e w' => e = .returned (SV (l.take 200)) ∧ w = w' :=
  short_any ⟨l.toArray⟩ w (by simpa [ByteArray.size] using hs)

/-- What the list of the records comes to. -/
def sumB : List (List UInt8) → Nat
  | [] => 0
  | r :: l => r.length + 16 + sumB l
theorem sumB_snoc (l : List (List UInt8)) (r : List UInt8) : sumB (l ++ [r]) = sumB l + r.length + 16 := by
  induction l with
  | nil => simp [sumB]
  | cons x l ih => simp only [List.cons_append, sumB, ih]; omega
theorem sumB_bytes (l : List (List UInt8)) : bytesOf l = sumB l := by
  induction l with
  | nil => simp [bytesOf, sumB]
  | cons x l ih =>
    unfold bytesOf at ih ⊢
    rw [enc_cons, sumB, ← ih]
    simp
    omega
theorem sumB_take (l : List (List UInt8)) (k : Nat) (h : k < l.length) : sumB (l.take (k + 1)) = sumB (l.take k) + l[k].length + 16 := by
  rw [List.take_succ_eq_append_getElem h, sumB_snoc]
theorem sumB_le (l : List (List UInt8)) (k : Nat) : sumB (l.take k) ≤ sumB l := by
  induction l generalizing k with
  | nil => simp
  | cons x l ih =>
    cases k with
    | zero => simp [sumB]
    | succ k => simp only [List.take_succ_cons, sumB]; have := ih k; omega
theorem sumB_len (l : List (List UInt8)) : 16 * l.length ≤ sumB l := by
  induction l with
  | nil => simp
  | cons x l ih => simp only [sumB, List.length_cons]; omega

end Go.Proofs.Ytdpebdghhgojaaa
