/- The walk of JournalKeeps. -/
import Derived.Test.YtdpebdghhgojaaaJSameW
namespace Go.Proofs.Ytdpebdghhgojaaa
open Go.RowKit

/-- The loop of JournalKeeps. -/
def KpRel (W : World) (rb n : Nat) (iv dv jv ev : Value) (wr : World) : Prop :=
  ∃ (k b jb : Nat) (fd fr : Nat → Prop) (d : DS) (L : List (List UInt8)), iv = .int .i64 k ∧ dv = .pointer (some ⟨b, 0, none⟩) ∧ jv = .pointer (some ⟨jb, 0, none⟩) ∧ ev = .int .i64 0 ∧ k ≤ n ∧ k ≤ 20 ∧ Both W wr fd fr jb b rb (jsOf L) d ⟨L, [], false, bytesOf L⟩ ∧ Clean d L ∧ d.fail = false ∧ d.calls ≤ 1 + 5 * k ∧ bytesOf L ≤ 216 * k ∧ L.length ≤ k

theorem ints_two (w : World) (x y : Int) : Ints (w.alloc (.cells #[.int .i64 x, .int .i64 y] 3)) (.slice (some ⟨w.heap.size, 0, none⟩) 2 2) [x, y] := by
  refine .inr ⟨by simp, w.heap.size, 0, 2, rfl, by simp, fun i hi => ?_⟩
  have h : i < 2 := by simpa using hi
  rw [Nat.zero_add, World.cell?_alloc_new]
  match i, h with
  | 0, _ => rfl
  | 1, _ => rfl

/-- In the midst of a drawn region a stronger condition may take S's place. -/
theorem wpAnyH_weaken {P : Program} {md : Region.Mode} {ops : Array Oper} {Q : Exit → Act → World → Prop} {S T : World → Prop} (hTS : ∀ w, T w → S w) : ∀ (fuel : Nat) (listed : Array Bool) (a : Act) (w : World), wpAnyH P md ops Q T fuel listed a w → wpAnyH P md ops Q S fuel listed a w
  | 0, _, _, _, h => h
  | fuel + 1, _, _, _, h => ⟨h.1, fun i hi => wpOp_mono (fun a' w' h' => ⟨hTS _ h'.1, wpAnyH_weaken hTS fuel _ a' w' h'.2⟩) (h.2 i hi)⟩

set_option maxRecDepth 100000 in
set_option maxHeartbeats 4000000 in
theorem keeps_walk (vl : Value) (l : List (List UInt8)) (ag cr : Int) (w : World) (hl : StrsA w vl l) (_ha : 0 ≤ ag ∧ ag ≤ 4294967295) (_hc : 0 ≤ cr ∧ cr ≤ 4294967295) :
    Calls Try.prog 13 #[vl, .int .u32 ag, .int .u32 cr] w fun e w' => e = .returned (.bool true) ∧ Only Nob w w' := by
  obtain ⟨hl, hl2, hl3⟩ := hl
  obtain ⟨al, cl, rfl⟩ := hl.form
  go_enter Try.func13, Try.ntmps13
  go_wp2_with fail
  refine (jsanity_any _).mono ?_
  rintro e w0 ⟨rfl, o0⟩
  have hl0 := Lib.hid (hl.other o0 (fun _ _ _ _ _ h => h))
  have HL2 := Lib.hid hl2
  clear hl hl2
  go_wp2_with fail
  refine (new_any _).mono ?_
  rintro e w1 ⟨b, rfl, -, d1, o1, -⟩
  go_wp2_with fail
  refine (opened_any _ b _ [] _ d1 (by decide) rfl holds_new).mono ?_
  rintro e w2 ⟨jb, ao, cap, fp2, rfl, p1, p2, j2, r2, f2, d2, f2', n2, o2⟩
  have a2 := JAt.opened ((After.nob w0).grow (b := w1) (Nat.le_refl _)) o1 j2 p1 d2 f2' o2
  have l2 := (clean_synced holds_new).1
  clear d1 o1 j2 p1 d2 f2' o2 p2 r2 f2 n2
  go_wp2_with fail
  refine (rnewj_any _).mono ?_
  rintro e w3 ⟨rfl, r3, o3⟩
  have b3 : Both w0 w3 fp2 (grow Nob w2 w3) jb b w2.heap.size _ _ _ := ⟨a2.quiet o3, r3, (After.nob w0).grow a2.on.size, fun k hk hx => by
    rcases hk with hk | ⟨hk, _⟩
    · exact hk.elim
    · rcases hx with hx | rfl
      · have := a2.dk.lt k hx; omega
      · have := a2.jh.lt; omega⟩
  have HR : KpRel w0 w2.heap.size l.length (.int .i64 (0 : Nat)) (.pointer (some ⟨b, 0, none⟩)) (.pointer (some ⟨jb, 0, none⟩)) (.int .i64 0) w3 := ⟨0, b, jb, _, _, _, [], rfl, rfl, rfl, rfl, Nat.zero_le _, by omega, b3, l2, rfl, by decide, by simp [bytesOf], Nat.le_refl _⟩
  clear a2 l2 b3 r3 o3
  generalize w2.heap.size = rb at *
  go_wp2_with fail
  go_loopw [13, 8, 9, 11] (fun iv dv jv ev wr => KpRel w0 rb l.length iv dv jv ev wr) (fun iv _ _ _ _ => 20 - (intOf iv).toNat)
  case atStart => exact HR
  case round =>
    obtain ⟨k, b, jb, fd, fr, d, L, rfl, rfl, rfl, rfl, g1, g2, g3, g4, g5, g6, g7, g8⟩ := hrel
    clear HR
    by_cases hk : k < l.length ∧ k < 20
    · obtain ⟨hk1, hk2⟩ := hk
      obtain ⟨b1, of1, c1, e1, -⟩ := strs_at (hl0.out.other g3.at_.on (fun _ _ _ _ _ h => h)) hk1
      simp only [Value.slice.injEq] at e1
      obtain ⟨rfl, _, rfl⟩ := e1
      have hcell := Lib.hid (show ∀ wx, Only Nob w0 wx → wx.cell? ⟨b1, of1 + k, none⟩ = some (SV (l[k])) from fun wx ox => by
        obtain ⟨b2, of2, c2, e1, e2⟩ := strs_at (hl0.out.other ox (fun _ _ _ _ _ h => h)) hk1
        simp only [Value.slice.injEq, Option.some.injEq, Addr.mk.injEq] at e1
        obtain ⟨⟨rfl, rfl, _⟩, _, rfl⟩ := e1
        exact e2)
      have h0 : (0 : Int) ≤ (k : Int) := by omega
      have hk3 : (k : Int) < (l.length : Int) := by omega
      have hk10 : (k : Int) < 20 := by omega
      have hshort : ∀ w, Calls Try.prog 43 #[SV (l[k])] w fun e w' => e = .returned (SV ((l[k]).take 200)) ∧ w = w' := fun w => short_SV l[k] w (HL2.out _ (List.getElem_mem hk1))
      have hrl : ((l[k]).take 200).length ≤ 200 := by rw [List.length_take]; omega
      generalize (l[k]).take 200 = r at hshort hrl
      generalize l[k] = rk at hcell hshort
      unfold SV at hcell
      have hshort := Lib.hid (show ∀ w, Calls Try.prog 43 #[.string ⟨rk.toArray⟩] w fun e w' => e = .returned (SV r) ∧ w = w' from hshort)
      have HA := Lib.hid (show ∀ w, JHdr w jb b (jsOf L) → DiskAt w fd b d → Calls Try.prog 42 #[.pointer (some ⟨jb, 0, none⟩), SV r] w (AppGood fd jb b d L r w) from fun w h1 h2 => jappend_good fd jb b d L r w h1 h2 g3.at_.nj g4 (by omega) (by omega) g5)
      have HR := Lib.hid (ref_ok rb L r hrl (by omega) (by omega))
      have HM := Lib.hid (show ∀ w, JHdr w jb b (jsOf (L ++ [r])) → Calls Try.prog 45 #[.pointer (some ⟨jb, 0, none⟩)] w fun e w' => e = .returned (.int .i64 ((L.length + 1 : Nat) : Int)) ∧ w = w' from fun w h => by
        have := many_any jb b _ _ h
        have e : (jsOf (L ++ [r])).many = L.length + 1 := by show (L ++ [r]).length = _; simp
        rw [e] at this
        exact this)
      have hby := bytesOf_snoc L r
      have hln : (L ++ [r]).length = L.length + 1 := by simp
      have HB := Lib.hid (And.intro hby hln)
      clear hby hln
      have v4 := hcell.out wr g3.at_.on
      have bd := g3.quiet (Only.drew Nob wr)
      have v4d := hcell.out wr.drew bd.at_.on
      go_wp2_with fail
      refine wp_region_held_drew (S := fun w' => w'.cell? ⟨b1, of1 + k, none⟩ = some (.string ⟨rk.toArray⟩)) (by kernel_rfl) v4d (fun hHeld => ?_)
      refine wpAnyH_take (i := 0) (oi := { dst := some 34, op := Op.move (Operand.tmp 11), type := 44, pos := "law.go:37", after := #[], guard := none }) (v := ?_) rfl (by kernel_rfl) (by kernel_rfl) (by kernel_rfl) (fun _ _ _ h => h) (Or.inl ⟨by rfl, ?hy0⟩) (by assumption) ?_
      case hy0 => (intro w hSw; (try dsimp only at hSw); go_simp; try with_reducible rfl)
      try simp only [Act.put, List.setIfInBounds_toArray, List.set_cons_zero, List.set_cons_succ]
      refine wpAnyH_take (i := 1) (oi := { dst := some 35, op := Op.binOp BinOp.neq 44 (Operand.tmp 34) (Operand.const (Value.int IntKind.i64 0)) 44, type := 4, pos := "law.go:37", after := #[{ on := 0, ground := Ground.data }], guard := none }) (v := ?_) rfl (by kernel_rfl) (by kernel_rfl) (by kernel_rfl) (fun _ _ _ h => h) (Or.inl ⟨by rfl, ?hy1⟩) (by assumption) ?_
      case hy1 => (intro w hSw; (try dsimp only at hSw); go_simp; try with_reducible rfl)
      try simp only [Act.put, List.setIfInBounds_toArray, List.set_cons_zero, List.set_cons_succ]
      refine wpAnyH_take (i := 2) (oi := { dst := some 36, op := Op.move (Operand.tmp 35), type := 4, pos := "law.go:37", after := #[{ on := 1, ground := Ground.data }], guard := none }) (v := ?_) rfl (by kernel_rfl) (by kernel_rfl) (by kernel_rfl) (fun _ _ _ h => h) (Or.inl ⟨by rfl, ?hy2⟩) (by assumption) ?_
      case hy2 => (intro w hSw; (try dsimp only at hSw); go_simp; try with_reducible rfl)
      try simp only [Act.put, List.setIfInBounds_toArray, List.set_cons_zero, List.set_cons_succ]
      refine wpAnyH_take (i := 3) (oi := { dst := some 37, op := Op.move (Operand.tmp 9), type := 65, pos := "law.go:37", after := #[{ on := 2, ground := Ground.guard }], guard := some (2, false) }) (v := ?_) rfl (by kernel_rfl) (by kernel_rfl) (by kernel_rfl) (fun _ _ _ h => h) (Or.inl ⟨by rfl, ?hy3⟩) (by assumption) ?_
      case hy3 => (intro w hSw; (try dsimp only at hSw); go_simp; try with_reducible rfl)
      try simp only [Act.put, List.setIfInBounds_toArray, List.set_cons_zero, List.set_cons_succ]
      refine wpAnyH_take (i := 4) (oi := { dst := some 38, op := Op.binOp BinOp.eql 65 (Operand.tmp 37) (Operand.const (Value.pointer none)) 65, type := 4, pos := "law.go:37", after := #[{ on := 3, ground := Ground.data }, { on := 2, ground := Ground.guard }], guard := some (2, false) }) (v := ?_) rfl (by kernel_rfl) (by kernel_rfl) (by kernel_rfl) (fun _ _ _ h => h) (Or.inl ⟨by rfl, ?hy4⟩) (by assumption) ?_
      case hy4 => (intro w hSw; (try dsimp only at hSw); go_simp; try with_reducible rfl)
      try simp only [Act.put, List.setIfInBounds_toArray, List.set_cons_zero, List.set_cons_succ]
      refine wpAnyH_take (i := 5) (oi := { dst := some 39, op := Op.pick (Operand.tmp 36) (Operand.const (Value.bool true)) (Operand.tmp 38), type := 4, pos := "law.go:37", after := #[{ on := 2, ground := Ground.data }, { on := 4, ground := Ground.data }], guard := none }) (v := ?_) rfl (by kernel_rfl) (by kernel_rfl) (by kernel_rfl) (fun _ _ _ h => h) (Or.inl ⟨by rfl, ?hy5⟩) (by assumption) ?_
      case hy5 => (intro w hSw; (try dsimp only at hSw); go_simp; try with_reducible rfl)
      try simp only [Act.put, List.setIfInBounds_toArray, List.set_cons_zero, List.set_cons_succ]
      refine wpAnyH_take (i := 6) (oi := { dst := some 40, op := Op.move (Operand.tmp 39), type := 4, pos := "law.go:37", after := #[{ on := 5, ground := Ground.data }, { on := 2, ground := Ground.chain }], guard := none }) (v := ?_) rfl (by kernel_rfl) (by kernel_rfl) (by kernel_rfl) (fun _ _ _ h => h) (Or.inl ⟨by rfl, ?hy6⟩) (by assumption) ?_
      case hy6 => (intro w hSw; (try dsimp only at hSw); go_simp; try with_reducible rfl)
      try simp only [Act.put, List.setIfInBounds_toArray, List.set_cons_zero, List.set_cons_succ]
      refine wpAnyH_take (i := 7) (oi := { dst := some 41, op := Op.move (Operand.tmp 9), type := 65, pos := "law.go:37", after := #[{ on := 6, ground := Ground.guard }], guard := some (6, false) }) (v := ?_) rfl (by kernel_rfl) (by kernel_rfl) (by kernel_rfl) (fun _ _ _ h => h) (Or.inl ⟨by rfl, ?hy7⟩) (by assumption) ?_
      case hy7 => (intro w hSw; (try dsimp only at hSw); go_simp; try with_reducible rfl)
      try simp only [Act.put, List.setIfInBounds_toArray, List.set_cons_zero, List.set_cons_succ]
      refine wpAnyH_take (i := 8) (oi := { dst := some 42, op := Op.move (Operand.tmp 0), type := 64, pos := "law.go:37", after := #[{ on := 6, ground := Ground.guard }], guard := some (6, false) }) (v := ?_) rfl (by kernel_rfl) (by kernel_rfl) (by kernel_rfl) (fun _ _ _ h => h) (Or.inl ⟨by rfl, ?hy8⟩) (by assumption) ?_
      case hy8 => (intro w hSw; (try dsimp only at hSw); go_simp; try with_reducible rfl)
      try simp only [Act.put, List.setIfInBounds_toArray, List.set_cons_zero, List.set_cons_succ]
      refine wpAnyH_take (i := 9) (oi := { dst := some 43, op := Op.move (Operand.tmp 13), type := 3, pos := "law.go:37", after := #[{ on := 6, ground := Ground.guard }], guard := some (6, false) }) (v := ?_) rfl (by kernel_rfl) (by kernel_rfl) (by kernel_rfl) (fun _ _ _ h => h) (Or.inl ⟨by rfl, ?hy9⟩) (by assumption) ?_
      case hy9 => (intro w hSw; (try dsimp only at hSw); go_simp; try with_reducible rfl)
      try simp only [Act.put, List.setIfInBounds_toArray, List.set_cons_zero, List.set_cons_succ]
      refine wpAnyH_take (i := 10) (oi := { dst := some 44, op := Op.indexAddr 64 (Operand.tmp 42) (Operand.tmp 43), type := 0, pos := "law.go:37", after := #[{ on := 8, ground := Ground.data }, { on := 9, ground := Ground.data }, { on := 6, ground := Ground.guard }], guard := some (6, false) }) (v := ?_) rfl (by kernel_rfl) (by kernel_rfl) (by kernel_rfl) (fun _ _ _ h => h) (Or.inl ⟨by rfl, ?hy10⟩) (by assumption) ?_
      case hy10 => (intro w hSw; (try dsimp only at hSw); go_simp; try with_reducible rfl)
      try simp only [Act.put, List.setIfInBounds_toArray, List.set_cons_zero, List.set_cons_succ]
      refine wpAnyH_take (i := 11) (oi := { dst := some 45, op := Op.load 9 (Operand.tmp 44), type := 9, pos := "law.go:37", after := #[{ on := 10, ground := Ground.data }, { on := 6, ground := Ground.guard }], guard := some (6, false) }) (v := ?_) rfl (by kernel_rfl) (by kernel_rfl) (by kernel_rfl) (fun _ _ _ h => h) (Or.inl ⟨by rfl, ?hy11⟩) (by assumption) ?_
      case hy11 => (intro w hSw; (try dsimp only at hSw); go_simp; try with_reducible rfl)
      try simp only [Act.put, List.setIfInBounds_toArray, List.set_cons_zero, List.set_cons_succ]
      refine wpAnyH_take (i := 14) (oi := { dst := some 48, op := Op.move (Operand.tmp 12), type := 68, pos := "law.go:37", after := #[{ on := 6, ground := Ground.guard }], guard := some (6, false) }) (v := ?_) rfl (by kernel_rfl) (by kernel_rfl) (by kernel_rfl) (fun _ _ _ h => h) (Or.inl ⟨by rfl, ?hy14⟩) (by assumption) ?_
      case hy14 => (intro w hSw; (try dsimp only at hSw); go_simp; try with_reducible rfl)
      try simp only [Act.put, List.setIfInBounds_toArray, List.set_cons_zero, List.set_cons_succ]
      refine wpAnyH_take (i := 15) (oi := { dst := some 49, op := Op.move (Operand.tmp 0), type := 64, pos := "law.go:37", after := #[{ on := 6, ground := Ground.guard }], guard := some (6, false) }) (v := ?_) rfl (by kernel_rfl) (by kernel_rfl) (by kernel_rfl) (fun _ _ _ h => h) (Or.inl ⟨by rfl, ?hy15⟩) (by assumption) ?_
      case hy15 => (intro w hSw; (try dsimp only at hSw); go_simp; try with_reducible rfl)
      try simp only [Act.put, List.setIfInBounds_toArray, List.set_cons_zero, List.set_cons_succ]
      refine wpAnyH_take (i := 16) (oi := { dst := some 50, op := Op.move (Operand.tmp 13), type := 3, pos := "law.go:37", after := #[{ on := 6, ground := Ground.guard }], guard := some (6, false) }) (v := ?_) rfl (by kernel_rfl) (by kernel_rfl) (by kernel_rfl) (fun _ _ _ h => h) (Or.inl ⟨by rfl, ?hy16⟩) (by assumption) ?_
      case hy16 => (intro w hSw; (try dsimp only at hSw); go_simp; try with_reducible rfl)
      try simp only [Act.put, List.setIfInBounds_toArray, List.set_cons_zero, List.set_cons_succ]
      refine wpAnyH_take (i := 17) (oi := { dst := some 51, op := Op.indexAddr 64 (Operand.tmp 49) (Operand.tmp 50), type := 0, pos := "law.go:37", after := #[{ on := 15, ground := Ground.data }, { on := 16, ground := Ground.data }, { on := 6, ground := Ground.guard }], guard := some (6, false) }) (v := ?_) rfl (by kernel_rfl) (by kernel_rfl) (by kernel_rfl) (fun _ _ _ h => h) (Or.inl ⟨by rfl, ?hy17⟩) (by assumption) ?_
      case hy17 => (intro w hSw; (try dsimp only at hSw); go_simp; try with_reducible rfl)
      try simp only [Act.put, List.setIfInBounds_toArray, List.set_cons_zero, List.set_cons_succ]
      refine wpAnyH_take (i := 18) (oi := { dst := some 52, op := Op.load 9 (Operand.tmp 51), type := 9, pos := "law.go:37", after := #[{ on := 17, ground := Ground.data }, { on := 6, ground := Ground.guard }], guard := some (6, false) }) (v := ?_) rfl (by kernel_rfl) (by kernel_rfl) (by kernel_rfl) (fun _ _ _ h => h) (Or.inl ⟨by rfl, ?hy18⟩) (by assumption) ?_
      case hy18 => (intro w hSw; (try dsimp only at hSw); go_simp; try with_reducible rfl)
      try simp only [Act.put, List.setIfInBounds_toArray, List.set_cons_zero, List.set_cons_succ]
      refine wpAnyH_ready (rs := [12]) (by kernel_rfl) (by simp) ?_
      refine AllReadyH.cons (o := { dst := some 46, op := Op.call { callee := Callee.value (Operand.func 43), args := #[Operand.tmp 45], argTypes := #[9] }, type := 9, pos := "law.go:37", after := #[{ on := 11, ground := Ground.data }, { on := 6, ground := Ground.chain }, { on := 6, ground := Ground.guard }], guard := some (6, false) }) rfl (fun K hK => ?_) AllReadyH.nil
      go_simp
      refine (hshort.out _).mono ?_
      rintro e w' ⟨rfl, rfl⟩
      refine hK.out _ _ v4d (fun hHeld => ?_)
      clear hK K
      try simp only [Act.put, List.setIfInBounds_toArray, List.set_cons_zero, List.set_cons_succ]
      refine wpAnyH_ready (rs := [13]) (by kernel_rfl) (by simp) ?_
      refine AllReadyH.cons (o := { dst := some 47, op := Op.call { callee := Callee.value (Operand.func 42), args := #[Operand.tmp 41, Operand.tmp 46], argTypes := #[65, 9] }, type := 44, pos := "law.go:37", after := #[{ on := 7, ground := Ground.data }, { on := 12, ground := Ground.data }, { on := 12, ground := Ground.chain }, { on := 6, ground := Ground.guard }], guard := some (6, false) }) rfl (fun K hK => ?_) AllReadyH.nil
      go_simp
      refine (HA.out _ bd.at_.jh bd.at_.dk).mono ?_
      rintro e w5 ⟨d5, rfl, j5, k5, l5, g5', o5⟩
      have b5 := bd.app j5 k5 o5
      have u5 := hcell.out w5 b5.at_.on
      refine hK.out _ _ u5 (fun hHeld => ?_)
      clear hK K
      try simp only [Act.put, List.setIfInBounds_toArray, List.set_cons_zero, List.set_cons_succ]
      refine wpAnyH_ready (rs := [19]) (by kernel_rfl) (by simp) ?_
      refine AllReadyH.cons (o := { dst := some 53, op := Op.call { callee := Callee.value (Operand.func 43), args := #[Operand.tmp 52], argTypes := #[9] }, type := 9, pos := "law.go:37", after := #[{ on := 18, ground := Ground.data }, { on := 13, ground := Ground.chain }, { on := 6, ground := Ground.guard }], guard := some (6, false) }) rfl (fun K hK => ?_) AllReadyH.nil
      go_simp
      refine (hshort.out _).mono ?_
      rintro e w' ⟨rfl, rfl⟩
      refine hK.out _ _ u5 (fun hHeld => ?_)
      clear hK K
      try simp only [Act.put, List.setIfInBounds_toArray, List.set_cons_zero, List.set_cons_succ]
      refine wpAnyH_ready (rs := [20]) (by kernel_rfl) (by simp) ?_
      refine AllReadyH.cons (o := { dst := some 54, op := Op.call { callee := Callee.value (Operand.func 44), args := #[Operand.tmp 48, Operand.tmp 53, Operand.const (Value.bool true)], argTypes := #[68, 9, 4] }, type := 44, pos := "law.go:37", after := #[{ on := 14, ground := Ground.data }, { on := 19, ground := Ground.data }, { on := 19, ground := Ground.chain }, { on := 6, ground := Ground.guard }], guard := some (6, false) }) rfl (fun K hK => ?_) AllReadyH.nil
      go_simp
      refine (HR.out _ _ b5.rj).mono ?_
      rintro e w6 ⟨rfl, r6, o6⟩
      have b6 := b5.ref r6 o6
      have u6 := hcell.out w6 b6.at_.on
      obtain ⟨vL, vM, hin⟩ := b6.rj
      obtain ⟨aL, cL, rfl, _⟩ := own_form hin.rL
      rw [HB.out.2] at hin
      obtain ⟨x0, -⟩ := hin.cells
      clear hin
      refine hK.out _ _ u6 (fun hHeld => ?_)
      clear hK K
      try simp only [Act.put, List.setIfInBounds_toArray, List.set_cons_zero, List.set_cons_succ]
      refine wpAnyH_weaken (T := fun w' => w'.cell? ⟨b1, of1 + k, none⟩ = some (.string ⟨rk.toArray⟩) ∧ w'.cell? ⟨rb, 0, none⟩ = some (.slice aL (L.length + 1) cL)) (fun _ h => h.1) _ _ _ _ ?_
      have u7 := And.intro u6 x0
      refine wpAnyH_take (i := 21) (oi := { dst := some 55, op := Op.binOp BinOp.neq 44 (Operand.tmp 47) (Operand.tmp 54) 44, type := 4, pos := "law.go:37", after := #[{ on := 13, ground := Ground.data }, { on := 20, ground := Ground.data }, { on := 6, ground := Ground.guard }], guard := some (6, false) }) (v := ?_) rfl (by kernel_rfl) (by kernel_rfl) (by kernel_rfl) (fun _ _ _ h => h) (Or.inl ⟨by rfl, ?hy21⟩) (by assumption) ?_
      case hy21 => (intro w hSw; (try dsimp only at hSw); go_simp; try with_reducible rfl)
      try simp only [Act.put, List.setIfInBounds_toArray, List.set_cons_zero, List.set_cons_succ]
      refine wpAnyH_take (i := 22) (oi := { dst := some 56, op := Op.pick (Operand.tmp 40) (Operand.const (Value.bool true)) (Operand.tmp 55), type := 4, pos := "law.go:37", after := #[{ on := 6, ground := Ground.data }, { on := 21, ground := Ground.data }], guard := none }) (v := ?_) rfl (by kernel_rfl) (by kernel_rfl) (by kernel_rfl) (fun _ _ _ h => h) (Or.inl ⟨by rfl, ?hy22⟩) (by assumption) ?_
      case hy22 => (intro w hSw; (try dsimp only at hSw); go_simp; try with_reducible rfl)
      try simp only [Act.put, List.setIfInBounds_toArray, List.set_cons_zero, List.set_cons_succ]
      refine wpAnyH_take (i := 23) (oi := { dst := some 57, op := Op.move (Operand.tmp 56), type := 4, pos := "law.go:37", after := #[{ on := 22, ground := Ground.data }, { on := 20, ground := Ground.chain }], guard := none }) (v := ?_) rfl (by kernel_rfl) (by kernel_rfl) (by kernel_rfl) (fun _ _ _ h => h) (Or.inl ⟨by rfl, ?hy23⟩) (by assumption) ?_
      case hy23 => (intro w hSw; (try dsimp only at hSw); go_simp; try with_reducible rfl)
      try simp only [Act.put, List.setIfInBounds_toArray, List.set_cons_zero, List.set_cons_succ]
      refine wpAnyH_take (i := 24) (oi := { dst := some 58, op := Op.move (Operand.tmp 9), type := 65, pos := "law.go:37", after := #[{ on := 23, ground := Ground.guard }], guard := some (23, false) }) (v := ?_) rfl (by kernel_rfl) (by kernel_rfl) (by kernel_rfl) (fun _ _ _ h => h) (Or.inl ⟨by rfl, ?hy24⟩) (by assumption) ?_
      case hy24 => (intro w hSw; (try dsimp only at hSw); go_simp; try with_reducible rfl)
      try simp only [Act.put, List.setIfInBounds_toArray, List.set_cons_zero, List.set_cons_succ]
      refine wpAnyH_take (i := 26) (oi := { dst := some 60, op := Op.move (Operand.tmp 12), type := 68, pos := "law.go:37", after := #[{ on := 23, ground := Ground.guard }], guard := some (23, false) }) (v := ?_) rfl (by kernel_rfl) (by kernel_rfl) (by kernel_rfl) (fun _ _ _ h => h) (Or.inl ⟨by rfl, ?hy26⟩) (by assumption) ?_
      case hy26 => (intro w hSw; (try dsimp only at hSw); go_simp; try with_reducible rfl)
      try simp only [Act.put, List.setIfInBounds_toArray, List.set_cons_zero, List.set_cons_succ]
      refine wpAnyH_take (i := 27) (oi := { dst := some 61, op := Op.nilCheck (Operand.tmp 60), type := 0, pos := "law.go:37", after := #[{ on := 26, ground := Ground.data }, { on := 23, ground := Ground.guard }], guard := some (23, false) }) (v := ?_) rfl (by kernel_rfl) (by kernel_rfl) (by kernel_rfl) (fun _ _ _ h => h) (Or.inl ⟨by rfl, ?hy27⟩) (by assumption) ?_
      case hy27 => (intro w hSw; (try dsimp only at hSw); go_simp; try with_reducible rfl)
      try simp only [Act.put, List.setIfInBounds_toArray, List.set_cons_zero, List.set_cons_succ]
      refine wpAnyH_take (i := 28) (oi := { dst := some 62, op := Op.fieldAddr 74 (Operand.tmp 61) 0, type := 0, pos := "law.go:37", after := #[{ on := 27, ground := Ground.data }, { on := 23, ground := Ground.guard }], guard := some (23, false) }) (v := ?_) rfl (by kernel_rfl) (by kernel_rfl) (by kernel_rfl) (fun _ _ _ h => h) (Or.inl ⟨by rfl, ?hy28⟩) (by assumption) ?_
      case hy28 => (intro w hSw; (try dsimp only at hSw); go_simp; try with_reducible rfl)
      try simp only [Act.put, List.setIfInBounds_toArray, List.set_cons_zero, List.set_cons_succ]
      refine wpAnyH_take (i := 29) (oi := { dst := some 63, op := Op.load 64 (Operand.tmp 62), type := 64, pos := "law.go:37", after := #[{ on := 28, ground := Ground.data }, { on := 23, ground := Ground.guard }], guard := some (23, false) }) (v := ?_) rfl (by kernel_rfl) (by kernel_rfl) (by kernel_rfl) (fun _ _ _ h => h) (Or.inl ⟨by rfl, ?hy29⟩) (by assumption) ?_
      case hy29 => (intro w hSw; (try dsimp only at hSw); go_simp; try with_reducible rfl)
      try simp only [Act.put, List.setIfInBounds_toArray, List.set_cons_zero, List.set_cons_succ]
      refine wpAnyH_take (i := 30) (oi := { dst := some 64, op := Op.call { callee := Callee.builtin Builtin.len, args := #[Operand.tmp 63], argTypes := #[64] }, type := 3, pos := "law.go:37", after := #[{ on := 29, ground := Ground.data }, { on := 23, ground := Ground.guard }], guard := some (23, false) }) (v := ?_) rfl (by kernel_rfl) (by kernel_rfl) (by kernel_rfl) (fun _ _ _ h => h) (Or.inl ⟨by rfl, ?hy30⟩) (by assumption) ?_
      case hy30 => (intro w hSw; (try dsimp only at hSw); go_simp; try with_reducible rfl)
      try simp only [Act.put, List.setIfInBounds_toArray, List.set_cons_zero, List.set_cons_succ]
      refine wpAnyH_ready (rs := [25]) (by kernel_rfl) (by simp) ?_
      refine AllReadyH.cons (o := { dst := some 59, op := Op.call { callee := Callee.value (Operand.func 45), args := #[Operand.tmp 58], argTypes := #[65] }, type := 3, pos := "law.go:37", after := #[{ on := 24, ground := Ground.data }, { on := 23, ground := Ground.chain }, { on := 23, ground := Ground.guard }], guard := some (23, false) }) rfl (fun K hK => ?_) AllReadyH.nil
      go_simp
      refine (HM.out _ b6.at_.jh).mono ?_
      rintro e w' ⟨rfl, rfl⟩
      refine hK.out _ _ u7 (fun hHeld => ?_)
      clear hK K
      try simp only [Act.put, List.setIfInBounds_toArray, List.set_cons_zero, List.set_cons_succ]
      refine wpAnyH_take (i := 31) (oi := { dst := some 65, op := Op.binOp BinOp.neq 3 (Operand.tmp 59) (Operand.tmp 64) 3, type := 4, pos := "law.go:37", after := #[{ on := 25, ground := Ground.data }, { on := 30, ground := Ground.data }, { on := 23, ground := Ground.guard }], guard := some (23, false) }) (v := ?_) rfl (by kernel_rfl) (by kernel_rfl) (by kernel_rfl) (fun _ _ _ h => h) (Or.inl ⟨by rfl, ?hy31⟩) (by assumption) ?_
      case hy31 => (intro w hSw; (try dsimp only at hSw); go_simp; try with_reducible rfl)
      try simp only [Act.put, List.setIfInBounds_toArray, List.set_cons_zero, List.set_cons_succ]
      refine wpAnyH_take (i := 32) (oi := { dst := some 66, op := Op.pick (Operand.tmp 57) (Operand.const (Value.bool true)) (Operand.tmp 65), type := 4, pos := "law.go:37", after := #[{ on := 23, ground := Ground.data }, { on := 31, ground := Ground.data }], guard := none }) (v := ?_) rfl (by kernel_rfl) (by kernel_rfl) (by kernel_rfl) (fun _ _ _ h => h) (Or.inl ⟨by rfl, ?hy32⟩) (by assumption) ?_
      case hy32 => (intro w hSw; (try dsimp only at hSw); go_simp; try with_reducible rfl)
      try simp only [Act.put, List.setIfInBounds_toArray, List.set_cons_zero, List.set_cons_succ]
      refine wpAnyH_done (by kernel_rfl) ?_ _
      have c5 := g5'.calls
      have f5 : d5.fail = false := by rw [g5'.fail]; exact g5
      obtain ⟨fr6, hfr6⟩ : ∃ fr6 : Nat → Prop, fr6 = grow fr w5 w6 := ⟨_, rfl⟩
      rw [← hfr6] at b6
      obtain ⟨-, hO⟩ := rs_opens rb ⟨L ++ [r], [], false, bytesOf (L ++ [r])⟩ (L ++ [r]) (L ++ [r]) (.inl ⟨rfl, rfl⟩) (by rw [HB.out.2]; omega) (by rw [HB.out.1]; omega)
      have HO := Lib.hid hO
      clear hHeld u7 x0 u6 u5 b5 bd v4 v4d j5 k5 o5 g5' r6 o6 g3 g4 hfr6 hO
      generalize L ++ [r] = G at *
      obtain ⟨h, hh⟩ : ∃ h : Nat, h = k / 2 := ⟨_, rfl⟩
      have hdiv : IntKind.i64.wrap ((k : Int).tdiv 2) = (h : Nat) := by
        rw [Int.tdiv_eq_ediv_of_nonneg (by omega), IntWalk.i64_in _ (by omega)]; omega
      go_wp2_with fail
      · have oA : Only Nob w6 (w6.alloc (Obj.cells #[Value.int IntKind.i64 (k : Int), Value.int IntKind.i64 ((k : Int) / 2)] 3)) := Only.alloc Nob _ _
        have hI := ints_two w6 (k : Int) ((k : Int) / 2)
        refine (crash_any _ b d5 _ _ _ (b6.quiet oA).at_.dk hI).mono ?_
        rintro e w8 ⟨c, rfl, pc, d8, o8⟩
        have h8 : Holds (d5.crashed [(k : Int), (k : Int) / 2]).now G := (l5.crashed _).holds
        go_wp2_with fail
        refine (opened_any _ c _ G _ d8 (by show 0 < 100000; omega) rfl h8).mono ?_
        rintro e w9 ⟨jc, ao9, cap9, fp9, rfl, p9, p9', jh9, r9, f9, k9, f9', m9, o9⟩
        have b9 := (b6.quiet oA).fresh o8 (fun k h => h) jh9 p9 k9 f9' o9
        have nr9 : ∀ k, Blk (.slice ao9 G.length cap9) k → ¬ fr6 k := fun k hk hx => by
          have h1 := (f9 k hk).1
          have h2 := b6.rj.lt hx
          have h3 := o8.size
          have h4 := oA.size
          omega
        have l9 := (clean_synced h8).1
        go_wp2_with fail
        refine (HO.out _ _ _ b9.rj r9 nr9).mono ?_
        rintro e w10 ⟨rfl, r10, o10⟩
        have b10 := b9.ref r10 o10
        clear b9 r9 nr9 r10 o10
        go_wp2_with fail
        go_roundw
        case rel => exact ⟨k + 1, c, jc, _, _, (d5.crashed [(k : Int), (k : Int) / 2]).synced, G, by simp, rfl, rfl, rfl, hk1, hk2, b10, l9, rfl, by show 0 + 1 ≤ _; omega, by rw [HB.out.1]; omega, by rw [HB.out.2]; omega⟩
        case measure => simp [intOf]; omega
      · refine (opened_any _ b d5 G _ b6.at_.dk (by omega) f5 l5.holds).mono ?_
        rintro e w9 ⟨jc, ao9, cap9, fp9, rfl, p9, p9', jh9, r9, f9, k9, f9', m9, o9⟩
        have b9 := b6.again jh9 p9 k9 f9' o9
        have nr9 : ∀ k, Blk (.slice ao9 G.length cap9) k → ¬ fr6 k := fun k hk hx => by
          have h1 := (f9 k hk).1
          have h2 := b6.rj.lt hx
          omega
        have l9 := (clean_synced l5.holds).1
        go_wp2_with fail
        refine (HO.out _ _ _ b9.rj r9 nr9).mono ?_
        rintro e w10 ⟨rfl, r10, o10⟩
        have b10 := b9.ref r10 o10
        clear b9 r9 nr9 r10 o10
        go_wp2_with fail
        go_roundw
        case rel => exact ⟨k + 1, b, jc, _, _, d5.synced, G, by simp, rfl, rfl, rfl, hk1, hk2, b10, l9, f5, by show d5.calls + 1 ≤ _; omega, by rw [HB.out.1]; omega, by rw [HB.out.2]; omega⟩
        case measure => simp [intOf]; omega
      · go_roundw
        case rel => exact ⟨k + 1, b, jb, _, _, d5, G, by simp, rfl, rfl, rfl, hk1, hk2, b6, l5, f5, by omega, by rw [HB.out.1]; omega, by rw [HB.out.2]; omega⟩
        case measure => simp [intOf]; omega
    · obtain ⟨wb, rfl⟩ : ∃ wb : World, wb = wr := ⟨_, rfl⟩
      have HM := Lib.hid (show ∀ w, JHdr w jb b (jsOf L) → Calls Try.prog 45 #[.pointer (some ⟨jb, 0, none⟩)] w fun e w' => e = .returned (.int .i64 (L.length : Nat)) ∧ w = w' from fun w h => many_any jb b _ _ h)
      have bd := g3.quiet (Only.drew Nob wb)
      have hvL := g3.rj
      obtain ⟨vL, vM, hin⟩ := hvL
      obtain ⟨aL, cL, rfl, _⟩ := own_form hin.rL
      have u6 := hin.cells.1
      have u6d := (hin.other (Only.drew Nob wb) (fun _ _ h => h)).cells.1
      have OT := Lib.hid (o0.trans bd.at_.on (fun _ _ h => h))
      have JH := Lib.hid bd.at_.jh
      by_cases hk1 : k < l.length
      case' pos =>
        obtain rfl : k = 20 := by omega
        have t1 : (20 : Int) < (l.length : Int) := by omega
        clear hk hk1 g1 g2 g5 g6 g7 g8
      case' neg =>
        obtain rfl : k = l.length := by omega
        have t1 : (l.length : Int) ≤ (20 : Int) := by omega
        clear hk hk1 g1 g2 g5 g6 g7 g8
      all_goals
        clear g3 g4 hin bd
        go_wp2_with fail
        go_region_held3 (fun w' => w'.cell? ⟨rb, 0, none⟩ = some (.slice aL L.length cL))
          (with_reducible first | exact u6d | exact u6)
          (first
            | (go_at_call 45; (with_reducible refine (HM.out _ JH.out).mono ?_); rintro e w' ⟨rfl, rfl⟩))
        go_wp2_with fail
        go_ret
        exact ⟨by simp, OT.out⟩
end Go.Proofs.Ytdpebdghhgojaaa
