/- Append and Open as contracts over the records: what the laws use. -/
import Derived.Test.YtdpebdghhgojaaaJAppend
namespace Go.Proofs.Ytdpebdghhgojaaa
open Go.RowKit

/-- The journal's numbers for the records L. -/
def jsOf (L : List (List UInt8)) : JS := ⟨L.length, bytesOf L, 64 + (enc L).length, false⟩
def jsBroken (L : List (List UInt8)) : JS := ⟨L.length, bytesOf L, 64 + (enc L).length, true⟩

/-- The record was appended. -/
def AppGood (fd : Nat → Prop) (jb db : Nat) (d : DS) (L : List (List UInt8)) (r : List UInt8) (w : World) (e : Ending) (w' : World) : Prop :=
  ∃ d', e = .returned (.int .i64 0) ∧ JHdr w' jb db (jsOf (L ++ [r])) ∧ DiskAt w' (grow fd w w') db d' ∧ Clean d' (L ++ [r]) ∧ Went d d' 4 ∧ Only (fun k => fd k ∨ k = jb) w w'
/-- The power failed. -/
def AppTorn (fd : Nat → Prop) (jb db : Nat) (d : DS) (L : List (List UInt8)) (r : List UInt8) (w : World) (e : Ending) (w' : World) : Prop :=
  ∃ d', e = .returned (.int .i64 70) ∧ JHdr w' jb db (jsBroken L) ∧ DiskAt w' (grow fd w w') db d' ∧ Torn d' L r ∧ d.fail = true ∧ d'.fail = true ∧ d'.calls ≤ d.calls + 4 ∧ Only (fun k => fd k ∨ k = jb) w w'

theorem off_fail {d : DS} (h : d.off = true) : d.fail = true := by
  unfold DS.off at h; simp at h; exact h.1

theorem jappend_any (fd : Nat → Prop) (jb db : Nat) (d : DS) (L : List (List UInt8)) (r : List UInt8) (w : World) (hj : JHdr w jb db (jsOf L)) (hd : DiskAt w fd db d) (hn : ¬ fd jb) (hc : Clean d L) (hf : bytesOf L + r.length + 272 ≤ 16777216) (hcl : d.calls < 99990) :
    Calls Try.prog 42 #[.pointer (some ⟨jb, 0, none⟩), SV r] w fun e w' => AppGood fd jb db d L r w e w' ∨ AppTorn fd jb db d L r w e w' := by
  have hbl : (enc L).length ≤ bytesOf L := by unfold bytesOf; omega
  have hcn := enc_count L
  refine (append_do fd jb db (jsOf L) d r w hj hd hn rfl hf (by show 64 + (enc L).length ≤ _; omega) (by show 64 ≤ 64 + (enc L).length; omega) (by show L.length ≤ _; omega) hcl).mono ?_
  rintro e w' ⟨rfl, h2, h3, h4⟩
  have he : (jsOf L).end_ = 64 + (enc L).length := rfl
  rw [he] at h2 h3 ⊢
  rcases app_cases hc r hf with ⟨d', e1, e2, e3⟩ | ⟨d', e1, e2, e3, e4, e5⟩
  · rw [e1] at h2 h3 ⊢
    left
    rw [if_pos rfl] at h2
    refine ⟨d', rfl, ?_, h3, e2, e3, h4⟩
    have hs : jsOf (L ++ [r]) = ⟨(jsOf L).many + 1, (jsOf L).bytes + r.length + 16, 64 + (enc L).length + 4 + r.length, false⟩ := by
      show (⟨(L ++ [r]).length, bytesOf (L ++ [r]), 64 + (enc (L ++ [r])).length, false⟩ : JS) = ⟨L.length + 1, bytesOf L + r.length + 16, 64 + (enc L).length + 4 + r.length, false⟩
      rw [bytesOf_snoc, enc_snoc, List.length_append, List.length_append, encR_length]
      simp only [List.length_singleton, JS.mk.injEq, true_and, and_true]
      omega
    rw [hs]; exact h2
  · rw [e1] at h2 h3 ⊢
    right
    rw [if_neg (show ¬ (70 : Int) = 0 by omega)] at h2
    exact ⟨d', rfl, h2, h3, e2, e3, off_fail e4, e5, h4⟩

theorem jappend_good (fd : Nat → Prop) (jb db : Nat) (d : DS) (L : List (List UInt8)) (r : List UInt8) (w : World) (hj : JHdr w jb db (jsOf L)) (hd : DiskAt w fd db d) (hn : ¬ fd jb) (hc : Clean d L) (hf : bytesOf L + r.length + 272 ≤ 16777216) (hcl : d.calls < 99990) (hp : d.fail = false) :
    Calls Try.prog 42 #[.pointer (some ⟨jb, 0, none⟩), SV r] w (AppGood fd jb db d L r w) :=
  (jappend_any fd jb db d L r w hj hd hn hc hf hcl).mono fun e w' h => by
    rcases h with h | ⟨d', _, _, _, _, h, _⟩
    · exact h
    · rw [hp] at h; cases h

/-- A journal was opened: the journal's own block, and the list. -/
def Opened (fp : Nat → Prop) (b : Nat) (d : DS) (L : List (List UInt8)) (w : World) (r : Ending) (w' : World) : Prop :=
  ∃ (jb : Nat) (ao : Option Addr) (cap : Nat) (fp' : Nat → Prop), r = .returned (.tuple #[.pointer (some ⟨jb, 0, none⟩), .slice ao L.length cap, .int .i64 0]) ∧ w.heap.size ≤ jb ∧ jb < w'.heap.size ∧
    JHdr w' jb b (jsOf L) ∧ Srow w' (.slice ao L.length cap) L ∧ (∀ k, Blk (.slice ao L.length cap) k → w.heap.size ≤ k ∧ k ≠ jb ∧ ¬ fp' k) ∧ DiskAt w' fp' b d.synced ∧ (∀ k, fp' k → grow fp w w' k ∧ k ≠ jb) ∧ ¬ fp' jb ∧ Only fp w w'

theorem opened_any (fp : Nat → Prop) (b : Nat) (d : DS) (L : List (List UInt8)) (w : World) (hd : DiskAt w fp b d) (hcl : d.calls < 100000) (ho : d.fail = false) (hL : Holds d.now L) :
    Calls Try.prog 40 #[.pointer (some ⟨b, 0, none⟩)] w (Opened fp b d L w) :=
  (open_good fp b d L w hd hcl (by unfold DS.off; rw [ho]; rfl) hL).mono fun e w' ⟨jb, vl, fp', h1, h2, h3, h4, h5, h6, h7, h8⟩ => by
    obtain ⟨ao, cap, rfl, _⟩ := own_form h4
    exact ⟨jb, ao, cap, fp', h1, h2, h3.lt, h3, h4, h5, h6, h7, fun h => (h7 jb h).2 rfl, h8⟩

theorem clean_synced {d : DS} {L : List (List UInt8)} (h : Holds d.now L) : Clean d.synced L ∧ d.synced.fail = d.fail ∧ d.synced.calls = d.calls + 1 := ⟨⟨rfl, rfl, h⟩, rfl, rfl⟩

theorem holds_new : Holds DS.new.now [] := ⟨rfl, List.nil_prefix, by simp⟩

end Go.Proofs.Ytdpebdghhgojaaa
