/- The walk of the journal laws' own check. -/
import Derived.Test.YtdpebdghhgojaaaJCon
import Derived.Test.YtdpebdghhgojaaaJSame
namespace Go.Proofs.Ytdpebdghhgojaaa
open Go.RowKit

/-- The blocks fp lie behind W. -/
def After (W : World) (fp : Nat → Prop) : Prop := ∀ k, fp k → W.heap.size ≤ k
theorem After.nob (W : World) : After W Nob := fun _ h => h.elim
theorem After.grow {W a b : World} {fp : Nat → Prop} (h : After W fp) (ha : W.heap.size ≤ a.heap.size) : After W (grow fp a b) := fun k hk => by
  rcases hk with hk | ⟨hk, _⟩
  · exact h k hk
  · omega
theorem After.only {W a b : World} {fp : Nat → Prop} (h : After W fp) (h1 : Only Nob W a) (h2 : Only fp a b) : Only Nob W b := h1.trans h2 (fun i hi hx => by have := h i hx; omega)
theorem After.or {W : World} {fp : Nat → Prop} {j : Nat} (h : After W fp) (hj : W.heap.size ≤ j) : After W (fun k => fp k ∨ k = j) := fun k hk => by
  rcases hk with hk | rfl
  · exact h k hk
  · exact hj

/-- A journal on a disk, in the world w; all of it lies behind W, and nothing that lay in W has changed. -/
structure JAt (W w : World) (fd : Nat → Prop) (jb db : Nat) (js : JS) (d : DS) : Prop where
  jh : JHdr w jb db js
  dk : DiskAt w fd db d
  nj : ¬ fd jb
  aj : W.heap.size ≤ jb
  ad : After W fd
  on : Only Nob W w

theorem JAt.quiet {W w w' : World} {fd : Nat → Prop} {jb db : Nat} {js : JS} {d : DS} (h : JAt W w fd jb db js d) (o : Only Nob w w') : JAt W w' fd jb db js d :=
  ⟨h.jh.other o (fun h => h), h.dk.other o (fun _ _ h => h), h.nj, h.aj, h.ad, h.on.trans o (fun _ _ h => h)⟩

/-- A new disk and its journal. -/
theorem JAt.opened {W w w1 : World} {fp fp' : Nat → Prop} {jb b : Nat} {js : JS} {d : DS} (h : After W fp) (h0 : Only Nob W w) (hj : JHdr w1 jb b js) (hjb : w.heap.size ≤ jb) (hd : DiskAt w1 fp' b d) (hf : ∀ k, fp' k → grow fp w w1 k ∧ k ≠ jb) (o : Only fp w w1) : JAt W w1 fp' jb b js d :=
  ⟨hj, hd, fun h => (hf jb h).2 rfl, Nat.le_trans h0.size hjb, fun k hk => (h.grow h0.size) k (hf k hk).1, h.only h0 o⟩

/-- A call of Append. -/
theorem JAt.app {W w w1 : World} {fd : Nat → Prop} {jb b : Nat} {js js' : JS} {d d' : DS} (h : JAt W w fd jb b js d) (hj : JHdr w1 jb b js') (hd : DiskAt w1 (grow fd w w1) b d') (o : Only (fun k => fd k ∨ k = jb) w w1) : JAt W w1 (grow fd w w1) jb b js' d' :=
  ⟨hj, hd, fun hk => by
    rcases hk with hk | ⟨hk, _⟩
    · exact h.nj hk
    · have := h.jh.lt; omega, h.aj, h.ad.grow h.on.size, (h.ad.or h.aj).only h.on o⟩

/-- A call on the disk. -/
theorem JAt.disk {W w w1 : World} {fd : Nat → Prop} {jb b : Nat} {js : JS} {d d' : DS} (h : JAt W w fd jb b js d) (hd : DiskAt w1 (grow fd w w1) b d') (o : Only fd w w1) : JAt W w1 (grow fd w w1) jb b js d' :=
  h.app (h.jh.other o h.nj) hd (o.mono (fun _ _ h => .inl h))

theorem ints_nil (w : World) : Ints w (.slice none 0 0) [] := .inl ⟨rfl, _, _, rfl⟩

/-- Append while the power is off: the disk stays as it is. -/
theorem jappend_off (fd : Nat → Prop) (jb db : Nat) (d : DS) (L : List (List UInt8)) (r : List UInt8) (w : World) (hj : JHdr w jb db (jsOf L)) (hd : DiskAt w fd db d) (hn : ¬ fd jb) (hf : bytesOf L + r.length + 272 ≤ 16777216) (hcl : d.calls < 99990) (ho : d.off = true) :
    Calls Try.prog 42 #[.pointer (some ⟨jb, 0, none⟩), SV r] w fun e w' => e = .returned (.int .i64 70) ∧ JHdr w' jb db (jsBroken L) ∧ DiskAt w' (grow fd w w') db d ∧ Only (fun k => fd k ∨ k = jb) w w' := by
  have hbl : (enc L).length ≤ bytesOf L := by unfold bytesOf; omega
  have hcn := enc_count L
  refine (append_do fd jb db (jsOf L) d r w hj hd hn rfl hf (by show 64 + (enc L).length ≤ _; omega) (by show 64 ≤ 64 + (enc L).length; omega) (by show L.length ≤ _; omega) hcl).mono ?_
  rintro e w' ⟨rfl, h2, h3, h4⟩
  have ha : d.app (jsOf L).end_ r = (d, 70) := by
    show d.app (64 + (enc L).length) r = _
    rcases step_cases d (64 + (enc L).length) (encR r) (by simp; omega) with ⟨_, e1⟩ | ⟨o1, _⟩ | ⟨o1, _⟩
    · unfold DS.app
      rw [e1, if_neg (show ¬ (70 : Int) = 0 by omega)]
    · rw [ho] at o1; cases o1
    · rw [ho] at o1; cases o1
  rw [ha] at h2 h3 ⊢
  rw [if_neg (show ¬ (70 : Int) = 0 by omega)] at h2
  exact ⟨rfl, h2, h3, h4⟩

/-- A list that lies apart from a journal. -/
def Apart (w : World) (fd : Nat → Prop) (jb : Nat) (v : Value) (L : List (List UInt8)) : Prop := Srow w v L ∧ ∀ k, Blk v k → ¬ (fd k ∨ k = jb)
theorem Apart.app {w w1 : World} {fd : Nat → Prop} {jb : Nat} {v : Value} {L : List (List UInt8)} (h : Apart w fd jb v L) (o : Only (fun k => fd k ∨ k = jb) w w1) : Apart w1 (grow fd w w1) jb v L :=
  ⟨h.1.other o h.2, fun k hk hx => by
    have hl := h.1.lt hk
    rcases hx with (hx | ⟨hx, _⟩) | hx
    · exact h.2 k hk (.inl hx)
    · omega
    · exact h.2 k hk (.inr hx)⟩
theorem Apart.quiet {w w1 : World} {fd : Nat → Prop} {jb : Nat} {v : Value} {L : List (List UInt8)} (h : Apart w fd jb v L) (o : Only Nob w w1) : Apart w1 fd jb v L := ⟨h.1.other o (fun _ _ h => h), h.2⟩

theorem strs_two (w : World) (a b : List UInt8) : Strs (w.alloc (.cells #[SV a, SV b] 9)) (.slice (some ⟨w.heap.size, 0, none⟩) 2 2) [a, b] := by
  refine .inr ⟨by simp, w.heap.size, 0, 2, rfl, by simp, fun i hi => ?_⟩
  have h : i < 2 := by simpa using hi
  rw [Nat.zero_add, World.cell?_alloc_new]
  match i, h with
  | 0, _ => rfl
  | 1, _ => rfl

def tA : List UInt8 := [97]
def tB : List UInt8 := [98]
def tC : List UInt8 := [99]

set_option maxRecDepth 100000 in
set_option maxHeartbeats 4000000 in
theorem jsanity_any (w : World) : Calls Try.prog 39 #[] w fun e w' => e = .returned (.bool true) ∧ Only Nob w w' := by
  go_enter Try.func39, Try.ntmps39
  go_wp2_with fail
  refine (new_any _).mono ?_
  rintro e w1 ⟨b, rfl, -, d1, o1, -⟩
  go_wp2_with fail
  refine (opened_any _ b _ [] _ d1 (by decide) rfl holds_new).mono ?_
  rintro e w2 ⟨jb, ao, cap, fp2, rfl, p1, p2, j2, r2, f2, d2, f2', n2, o2⟩
  have a2 := JAt.opened ((After.nob w).grow (b := w1) (Nat.le_refl _)) o1 j2 p1 d2 f2' o2
  have l2 := (clean_synced holds_new).1
  clear d1 o1 j2 p1 d2 f2' o2 p2 r2 f2 n2
  go_wp2_with fail
  refine (jappend_good _ jb b _ [] tA _ a2.jh a2.dk a2.nj l2 (by decide) (by decide) rfl).mono ?_
  rintro e w3 ⟨d3, rfl, j3, k3, l3, g3, o3⟩
  have a3 := a2.app j3 k3 o3
  have q3 : d3.calls = 5 := g3.calls
  have q3f : d3.fail = false := g3.fail
  clear j3 k3 o3 g3 a2 l2
  go_wp2_with fail
  refine (jappend_good _ jb b d3 ([] ++ [tA]) [] _ a3.jh a3.dk a3.nj l3 (by decide) (by omega) q3f).mono ?_
  rintro e w4 ⟨d4, rfl, j4, k4, l4, g4, o4⟩
  have a4 := a3.app j4 k4 o4
  have q4 : d4.calls = 9 := by have := g4.calls; omega
  have q4f : d4.fail = false := by rw [g4.fail]; exact q3f
  clear j4 k4 o4 g4 a3 l3 q3 q3f
  go_wp2_with fail
  refine (many_any jb b _ _ a4.jh).mono ?_
  rintro e w' ⟨rfl, rfl⟩
  go_wp2_with fail
  refine (crash_any _ b d4 _ [] _ a4.dk (ints_nil _)).mono ?_
  rintro e w5 ⟨c, rfl, pc, d5, o5⟩
  have l5 := l4.crashed []
  go_wp2_with fail
  refine (opened_any _ c _ _ _ d5 (by show 0 < 100000; omega) rfl l5.holds).mono ?_
  rintro e w6 ⟨jc, ao6, cap6, fp6, rfl, p6, p6', j6, r6, f6, d6, f6', n6, o6⟩
  have o46 := ((After.nob w4).grow (b := w5) (Nat.le_refl _)).only o5 o6
  have a6 := a4.quiet o46
  have z5 := o5.size
  have s6 : Apart w6 _ jb (.slice ao6 ([] ++ [tA] ++ [[]]).length cap6) ([] ++ [tA] ++ [[]]) := ⟨r6, fun k hk hx => by
    have h1 := (f6 k hk).1
    rcases hx with hx | hx
    · have := a4.dk.lt k hx; omega
    · have := a4.jh.lt; omega⟩
  clear a4 o46 o5 o6 l5 d5 d6 j6 f6' n6 p6 p6' pc f6 r6
  go_wp2_with fail
  refine (fail_any _ b d4 0 _ a6.dk (by omega)).mono ?_
  rintro e w7 ⟨rfl, k7, o7⟩
  have a7 := a6.disk k7 o7
  have s7 := s6.app (o7.mono (fun _ _ h => .inl h))
  have l7 := l4.failed 0
  clear a6 s6 k7 o7
  go_wp2_with fail
  refine (jappend_off _ jb b _ ([] ++ [tA] ++ [[]]) tB _ a7.jh a7.dk a7.nj (by decide) (by show d4.calls < 99990; omega) (by simp [DS.off, DS.failed])).mono ?_
  rintro e w8 ⟨rfl, j8, k8, o8⟩
  have a8 := a7.app j8 k8 o8
  have s8 := s7.app o8
  clear a7 s7 j8 k8 o8
  go_wp2_with fail
  refine (append_broken jb b _ tC _ a8.jh rfl).mono ?_
  rintro e w9 ⟨rfl, o9⟩
  have a9 := a8.quiet o9
  have s9 := s8.quiet o9
  clear a8 s8 o9
  go_wp2_with fail
  refine (crash_any _ b _ _ [] _ a9.dk (ints_nil _)).mono ?_
  rintro e w10 ⟨c2, rfl, pc2, d10, o10⟩
  have l10 := l7.crashed []
  go_wp2_with fail
  refine (opened_any _ c2 _ _ _ d10 (by show 0 < 100000; omega) rfl l10.holds).mono ?_
  rintro e w11 ⟨jc2, ao11, cap11, fp11, rfl, p11, p11', j11, r11, f11, d11, f11', n11, o11⟩
  have o911 := ((After.nob w9).grow (b := w10) (Nat.le_refl _)).only o10 o11
  have a11 := a9.quiet o911
  have s11 := (s9.quiet o911).1
  clear a9 s9 o911 o10 o11 d10 d11 j11 f11' n11 p11 p11' pc2 f11 l4 l7 l10 q4 q4f
  have oW := a11.on
  clear a11
  go_wp2_with fail
  have oS1 := Only.alloc Nob w11 (.cells #[SV tA, SV []] 9)
  refine (same_yes _ _ [tA, []] _ (r11.other oS1 (fun _ _ h => h)).strs (strs_two w11 tA []) (by decide)).mono ?_
  rintro e w12 ⟨rfl, o12⟩
  have oT := oS1.trans o12 (fun _ _ h => h)
  have s12 := s11.other oT (fun _ _ h => h)
  have oW12 := oW.trans oT (fun _ _ h => h)
  clear oT oS1 o12 s11 oW r11
  go_wp2_with fail
  have oS2 := Only.alloc Nob w12 (.cells #[SV tA, SV []] 9)
  refine (same_yes _ _ [tA, []] _ (s12.other oS2 (fun _ _ h => h)).strs (strs_two w12 tA []) (by decide)).mono ?_
  rintro e w13 ⟨rfl, o13⟩
  go_wp2_with fail
  go_ret
  exact ⟨by simp, oW12.trans (oS2.trans o13 (fun _ _ h => h)) (fun _ _ h => h)⟩

end Go.Proofs.Ytdpebdghhgojaaa
