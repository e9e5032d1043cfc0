/- A journal on a disk and the reference's journal beside it. -/
import Derived.Test.YtdpebdghhgojaaaJSanity
import Derived.Test.YtdpebdghhgojaaaJRef
import Derived.Test.YtdpebdghhgojaaaJArgs
import Derived.Test.YtdpebdghhgojaaaJOpensR
import Derived.Test.YtdpebdghhgojaaaJOpensL
namespace Go.Proofs.Ytdpebdghhgojaaa
open Go.RowKit

/-- Append's outcome is a function of the disk. -/
theorem jappend_split (d : DS) (L : List (List UInt8)) (r : List UInt8) (hc : Clean d L) (hf : bytesOf L + r.length + 272 ≤ 16777216) (hcl : d.calls < 99990) :
    (∀ fd jb db w, JHdr w jb db (jsOf L) → DiskAt w fd db d → ¬ fd jb → Calls Try.prog 42 #[.pointer (some ⟨jb, 0, none⟩), SV r] w (AppGood fd jb db d L r w)) ∨
    (d.fail = true ∧ ∀ fd jb db w, JHdr w jb db (jsOf L) → DiskAt w fd db d → ¬ fd jb → Calls Try.prog 42 #[.pointer (some ⟨jb, 0, none⟩), SV r] w (AppTorn fd jb db d L r w)) := by
  rcases app_cases hc r hf with ⟨d', e1, e2, e3⟩ | ⟨d', e1, e2, e3, e4, e5⟩
  · left
    intro fd jb db w hj hd hn
    have hbl : (enc L).length ≤ bytesOf L := by unfold bytesOf; omega
    have hcn := enc_count L
    refine (append_do fd jb db (jsOf L) d r w hj hd hn rfl hf (by show 64 + (enc L).length ≤ _; omega) (by show 64 ≤ 64 + (enc L).length; omega) (by show L.length ≤ _; omega) hcl).mono ?_
    rintro e w' ⟨rfl, h2, h3, h4⟩
    have he : (jsOf L).end_ = 64 + (enc L).length := rfl
    rw [he] at h2 h3 ⊢
    rw [e1] at h2 h3 ⊢
    rw [if_pos rfl] at h2
    refine ⟨d', rfl, ?_, h3, e2, e3, h4⟩
    have hs : jsOf (L ++ [r]) = ⟨(jsOf L).many + 1, (jsOf L).bytes + r.length + 16, 64 + (enc L).length + 4 + r.length, false⟩ := by
      show (⟨(L ++ [r]).length, bytesOf (L ++ [r]), 64 + (enc (L ++ [r])).length, false⟩ : JS) = ⟨L.length + 1, bytesOf L + r.length + 16, 64 + (enc L).length + 4 + r.length, false⟩
      rw [bytesOf_snoc, enc_snoc, List.length_append, List.length_append, encR_length]
      simp only [List.length_singleton, JS.mk.injEq, true_and, and_true]
      omega
    rw [hs]; exact h2
  · right
    refine ⟨e3, ?_⟩
    intro fd jb db w hj hd hn
    have hbl : (enc L).length ≤ bytesOf L := by unfold bytesOf; omega
    have hcn := enc_count L
    refine (append_do fd jb db (jsOf L) d r w hj hd hn rfl hf (by show 64 + (enc L).length ≤ _; omega) (by show 64 ≤ 64 + (enc L).length; omega) (by show L.length ≤ _; omega) hcl).mono ?_
    rintro e w' ⟨rfl, h2, h3, h4⟩
    have he : (jsOf L).end_ = 64 + (enc L).length := rfl
    rw [he] at h2 h3 ⊢
    rw [e1] at h2 h3 ⊢
    rw [if_neg (show ¬ (70 : Int) = 0 by omega)] at h2
    exact ⟨d', rfl, h2, h3, e2, e3, off_fail e4, e5, h4⟩

/-- A journal on a disk and the reference's journal, apart from each other. -/
structure Both (W w : World) (fd fr : Nat → Prop) (jb b rb : Nat) (js : JS) (d : DS) (rs : RS) : Prop where
  at_ : JAt W w fd jb b js d
  rj : RJ w fr rb rs
  ar : After W fr
  dis : ∀ k, fr k → ¬ (fd k ∨ k = jb)

theorem RJ.lt {w : World} {fp : Nat → Prop} {rb : Nat} {rs : RS} (h : RJ w fp rb rs) {k : Nat} (hk : fp k) : k < w.heap.size := by
  obtain ⟨_, _, h⟩ := h
  exact h.lt k hk

theorem JAt.aside {W w w1 : World} {fd S : Nat → Prop} {jb b : Nat} {js : JS} {d : DS} (h : JAt W w fd jb b js d) (o : Only S w w1) (hS : ∀ k, S k → ¬ (fd k ∨ k = jb)) (hW : After W S) : JAt W w1 fd jb b js d :=
  ⟨h.jh.other o (fun hs => hS _ hs (.inr rfl)), h.dk.other o (fun k hk hs => hS k hs (.inl hk)), h.nj, h.aj, h.ad, hW.only h.on o⟩

theorem Both.quiet {W w w1 : World} {fd fr : Nat → Prop} {jb b rb : Nat} {js : JS} {d : DS} {rs : RS} (h : Both W w fd fr jb b rb js d rs) (o : Only Nob w w1) : Both W w1 fd fr jb b rb js d rs :=
  ⟨h.at_.quiet o, h.rj.other o (fun _ _ h => h), h.ar, h.dis⟩

theorem Both.app {W w w1 : World} {fd fr : Nat → Prop} {jb b rb : Nat} {js js' : JS} {d d' : DS} {rs : RS} (h : Both W w fd fr jb b rb js d rs) (hj : JHdr w1 jb b js') (hd : DiskAt w1 (grow fd w w1) b d') (o : Only (fun k => fd k ∨ k = jb) w w1) : Both W w1 (grow fd w w1) fr jb b rb js' d' rs :=
  ⟨h.at_.app hj hd o, h.rj.other o (fun k hk hx => h.dis k hk hx), h.ar, fun k hk hx => by
    have hl := h.rj.lt hk
    rcases hx with (hx | ⟨hx, _⟩) | hx
    · exact h.dis k hk (.inl hx)
    · omega
    · exact h.dis k hk (.inr hx)⟩

theorem Both.disk {W w w1 : World} {fd fr : Nat → Prop} {jb b rb : Nat} {js : JS} {d d' : DS} {rs : RS} (h : Both W w fd fr jb b rb js d rs) (hd : DiskAt w1 (grow fd w w1) b d') (o : Only fd w w1) : Both W w1 (grow fd w w1) fr jb b rb js d' rs :=
  h.app (h.at_.jh.other o h.at_.nj) hd (o.mono (fun _ _ h => .inl h))

theorem Both.ref {W w w1 : World} {fd fr : Nat → Prop} {jb b rb : Nat} {js : JS} {d : DS} {rs rs' : RS} (h : Both W w fd fr jb b rb js d rs) (hr : RJ w1 (grow fr w w1) rb rs') (o : Only fr w w1) : Both W w1 fd (grow fr w w1) jb b rb js d rs' :=
  ⟨h.at_.aside o h.dis h.ar, hr, h.ar.grow h.at_.on.size, fun k hk hx => by
    rcases hk with hk | ⟨hk, _⟩
    · exact h.dis k hk hx
    · rcases hx with hx | rfl
      · have := h.at_.dk.lt k hx; omega
      · have := h.at_.jh.lt; omega⟩

/-- Another journal is opened on the same disk. -/
theorem Both.again {W w w1 : World} {fd fd' fr : Nat → Prop} {jb jb' b rb : Nat} {js js' : JS} {d d' : DS} {rs : RS} (h : Both W w fd fr jb b rb js d rs) (hj : JHdr w1 jb' b js') (hjb : w.heap.size ≤ jb') (hd : DiskAt w1 fd' b d') (hf : ∀ k, fd' k → grow fd w w1 k ∧ k ≠ jb') (o : Only fd w w1) : Both W w1 fd' fr jb' b rb js' d' rs :=
  ⟨JAt.opened h.at_.ad h.at_.on hj hjb hd hf o, h.rj.other o (fun k hk hx => h.dis k hk (.inl hx)), h.ar, fun k hk hx => by
    have hl := h.rj.lt hk
    rcases hx with hx | rfl
    · rcases (hf k hx).1 with h1 | ⟨h1, _⟩
      · exact h.dis k hk (.inl h1)
      · omega
    · omega⟩

/-- A journal is opened on a new disk. -/
theorem Both.fresh {W w w0 w1 : World} {fd fd0 fd' fr : Nat → Prop} {jb jb' b b' rb : Nat} {js js' : JS} {d d' : DS} {rs : RS} (h : Both W w fd fr jb b rb js d rs) (o0 : Only Nob w w0) (h0 : ∀ k, fd0 k → grow Nob w w0 k) (hj : JHdr w1 jb' b' js') (hjb : w0.heap.size ≤ jb') (hd : DiskAt w1 fd' b' d') (hf : ∀ k, fd' k → grow fd0 w0 w1 k ∧ k ≠ jb') (o : Only fd0 w0 w1) : Both W w1 fd' fr jb' b' rb js' d' rs := by
  have h2 : ∀ k, fd0 k → w.heap.size ≤ k := fun k hk => by
    rcases h0 k hk with h | ⟨h, _⟩
    · exact h.elim
    · exact h
  have z := h.at_.on.size
  have z0 := o0.size
  have aft : After W fd0 := fun k hk => by have := h2 k hk; omega
  refine ⟨JAt.opened aft (h.at_.on.trans o0 (fun _ _ h => h)) hj hjb hd hf o, (h.rj.other o0 (fun _ _ h => h)).other o (fun k hk hx => by have := h.rj.lt hk; have := h2 k hx; omega), h.ar, fun k hk hx => ?_⟩
  have hl := h.rj.lt hk
  rcases hx with hx | rfl
  · rcases (hf k hx).1 with h1 | ⟨h1, _⟩
    · have := h2 k h1; omega
    · omega
  · omega
end Go.Proofs.Ytdpebdghhgojaaa
