/- The walk of Append: its two writes, the steps, the deferred mark. -/
import Derived.Test.YtdpebdghhgojaaaJOpens
import Derived.Defers
namespace Go.Proofs.Ytdpebdghhgojaaa
open Go.RowKit

/-- What the closures of Append read. -/
structure AppIn (w : World) (fd : Nat → Prop) (Bj jb db : Nat) (js : JS) (d : DS) : Prop where
  bj : Boxed w Bj 65 (.pointer (some ⟨jb, 0, none⟩))
  jh : JHdr w jb db js
  dk : DiskAt w fd db d
  nj : ¬ fd jb
  nb : ¬ fd Bj

theorem AppIn.other {S fd : Nat → Prop} {w w' : World} {Bj jb db : Nat} {js : JS} {d : DS} (h : AppIn w fd Bj jb db js d) (ho : Only S w w') (hn : ∀ k, fd k → ¬ S k) (h1 : ¬ S jb) (h2 : ¬ S Bj) : AppIn w' fd Bj jb db js d :=
  ⟨(ho.block _ h.bj.lt h2).trans h.bj, h.jh.other ho h1, h.dk.other ho hn, h.nj, h.nb⟩

theorem mid_post {fp : Nat → Prop} {w w1 w2 : World} {b : Nat} {d : DS} (hl : ∀ k, fp k → k < w.heap.size) (o1 : Only Nob w w1) (d2 : DiskAt w2 (grow fp w1 w2) b d) (o2 : Only fp w1 w2) : DiskAt w2 (grow fp w w2) b d ∧ Only fp w w2 := by
  have z1 := o1.size
  have z2 := o2.size
  refine ⟨d2.mono ?_ (grow_lt hl (by omega)), (o1.mono (T := fp) (fun _ _ h => h.elim)).trans o2 (fun _ _ h => h)⟩
  rintro k (hk | ⟨hk, hk2⟩)
  · exact .inl hk
  · exact .inr ⟨by omega, hk2⟩

theorem cat_bytes (a b : List UInt8) : (⟨a.toArray⟩ : ByteArray) ++ ⟨b.toArray⟩ = ⟨(a ++ b).toArray⟩ := by
  apply ByteArray.ext
  simp

set_option maxRecDepth 100000 in
set_option maxHeartbeats 1000000 in
theorem close1 (fd : Nat → Prop) (Bj Br jb db : Nat) (js : JS) (d : DS) (r : List UInt8) (w : World) (h : AppIn w fd Bj jb db js d) (hr : Boxed w Br 9 (SV r)) (hnr : ¬ fd Br) (hcl : d.calls < 100000) (hrl : r.length ≤ 100000000) (hj : js.end_ ≤ 100000000) :
    Calls Try.prog 62 #[.pointer (some ⟨Bj, 0, none⟩), .pointer (some ⟨Br, 0, none⟩)] w (DPost fd db (d.wr js.end_ (encR r)) (.int .i64 (d.wrE js.end_ (encR r))) w) := by
  have cb := h.bj.cell
  have cr : w.cell? ⟨Br, 0, none⟩ = some (.string ⟨r.toArray⟩) := hr.cell
  obtain ⟨c0, c1, c2, c3, c4⟩ := h.jh.cells
  clear c1 c2 c4
  have hno : ¬ (9223372036854775807 < 4 + r.length) := by omega
  have hno2 : ¬ (9223372036854775807 < (numB r.length 4).length + r.length) := by simp; omega
  have W33 := Lib.hid <| show ∀ w, DiskAt w fd db d → Calls Try.prog 33 #[.pointer (some ⟨db, 0, none⟩), .int .i64 js.end_, .string ((⟨(numB r.length 4).toArray⟩ : ByteArray) ++ ⟨r.toArray⟩)] w (DPost fd db (d.wr js.end_ (encR r)) (.int .i64 (d.wrE js.end_ (encR r))) w) from fun w hw => by
    rw [cat_bytes]
    exact write_all fd db js.end_ ⟨(encR r).toArray⟩ d w hw hcl (rng_nat (by omega)) (by simp [ByteArray.size]; omega)
  go_enter Try.func62, Try.ntmps62
  go_wp2
  go_region_held3 (fun w' => w'.cell? ⟨Bj, 0, none⟩ = some (.pointer (some ⟨jb, 0, none⟩)) ∧ w'.cell? ⟨Br, 0, none⟩ = some (.string ⟨r.toArray⟩) ∧ w'.cell? ⟨jb, 0, none⟩ = some (.pointer (some ⟨db, 0, none⟩)) ∧ w'.cell? ⟨jb, 3, none⟩ = some (.int .i64 js.end_))
    (first | exact ⟨cb, cr, c0, c3⟩ | exact Q2.out | exact Q1.out | go_keep)
    (first
      | (have q := Q1; go_at_call 33; refine (W33.out _ h1.dk).mono ?_; rintro e w2 ⟨rfl, d2, o2⟩; have q2 := (h1.jh.other o2 h1.nj).cells; have Q2 := Lib.hid (show w2.cell? ⟨Bj, 0, none⟩ = some (.pointer (some ⟨jb, 0, none⟩)) ∧ w2.cell? ⟨Br, 0, none⟩ = some (.string ⟨r.toArray⟩) ∧ w2.cell? ⟨jb, 0, none⟩ = some (.pointer (some ⟨db, 0, none⟩)) ∧ w2.cell? ⟨jb, 3, none⟩ = some (.int .i64 js.end_) from ⟨(o2.cell (a := ⟨Bj, 0, none⟩) h1.bj.lt h1.nb).trans h1.bj.cell, (o2.cell (a := ⟨Br, 0, none⟩) (Nat.lt_of_lt_of_le hr.lt o1'.size) hnr).trans Q1.out.2.1, q2.1, q2.2.2.2.1⟩); clear q2)
      | (go_at_call 63; refine (number_any r.length 4 _ (.inl rfl) (by omega)).mono ?_; rintro e w1 ⟨rfl, o1⟩; have o1' := (Only.drew Nob w).trans o1 (fun _ _ h => h); have h1 := h.other o1' (fun _ _ h => h) (fun h => h) (fun h => h); have Q1 := Lib.hid (show w1.cell? ⟨Bj, 0, none⟩ = some (.pointer (some ⟨jb, 0, none⟩)) ∧ w1.cell? ⟨Br, 0, none⟩ = some (.string ⟨r.toArray⟩) ∧ w1.cell? ⟨jb, 0, none⟩ = some (.pointer (some ⟨db, 0, none⟩)) ∧ w1.cell? ⟨jb, 3, none⟩ = some (.int .i64 js.end_) from ⟨h1.bj.cell, (o1'.cell (a := ⟨Br, 0, none⟩) hr.lt (fun h => h)).trans cr, h1.jh.cells.1, h1.jh.cells.2.2.2.1⟩)))
  go_wp2
  go_ret
  exact ⟨by simp, mid_post h.dk.lt o1' d2 o2⟩

set_option maxRecDepth 100000 in
set_option maxHeartbeats 1000000 in
theorem close2 (fd : Nat → Prop) (Bj Bn jb db n : Nat) (js : JS) (d : DS) (w : World) (h : AppIn w fd Bj jb db js d) (hr : Boxed w Bn 3 (.int .i64 n)) (hnr : ¬ fd Bn) (hcl : d.calls < 100000) (hn : 64 ≤ n) (hn2 : n ≤ 100000000) :
    Calls Try.prog 64 #[.pointer (some ⟨Bj, 0, none⟩), .pointer (some ⟨Bn, 0, none⟩)] w (DPost fd db (d.wr 0 (numB (n - 64) 8)) (.int .i64 (d.wrE 0 (numB (n - 64) 8))) w) := by
  have cb := h.bj.cell
  have cr := hr.cell
  obtain ⟨c0, c1, c2, c3, c4⟩ := h.jh.cells
  clear c1 c2 c3 c4
  have hsub : IntKind.i64.wrap ((n : Int) - 64) = ((n - 64 : Nat) : Int) := by rw [IntWalk.i64_in _ (by omega)]; omega
  have W33 := Lib.hid <| show ∀ w, DiskAt w fd db d → Calls Try.prog 33 #[.pointer (some ⟨db, 0, none⟩), .int .i64 0, .string ⟨(numB (n - 64) 8).toArray⟩] w (DPost fd db (d.wr 0 (numB (n - 64) 8)) (.int .i64 (d.wrE 0 (numB (n - 64) 8))) w) from fun w hw =>
    write_all fd db 0 ⟨(numB (n - 64) 8).toArray⟩ d w hw hcl (by unfold Rng; omega) (by simp [ByteArray.size])
  have N63 := Lib.hid <| show ∀ w, Calls Try.prog 63 #[.int .i64 ((n - 64 : Nat) : Int), .int .i64 8] w (LongPost ⟨(numB (n - 64) 8).toArray⟩ w) from fun w => number_any (n - 64) 8 w (.inr rfl) (by omega)
  go_enter Try.func64, Try.ntmps64
  go_wp2
  go_region_held3 (fun w' => w'.cell? ⟨Bj, 0, none⟩ = some (.pointer (some ⟨jb, 0, none⟩)) ∧ w'.cell? ⟨Bn, 0, none⟩ = some (.int .i64 n) ∧ w'.cell? ⟨jb, 0, none⟩ = some (.pointer (some ⟨db, 0, none⟩)))
    (first | exact ⟨cb, cr, c0⟩ | exact Q2.out | exact Q1.out | go_keep)
    (first
      | (have q := Q1; go_at_call 33; refine (W33.out _ h1.dk).mono ?_; rintro e w2 ⟨rfl, d2, o2⟩; have q2 := (h1.jh.other o2 h1.nj).cells; have Q2 := Lib.hid (show w2.cell? ⟨Bj, 0, none⟩ = some (.pointer (some ⟨jb, 0, none⟩)) ∧ w2.cell? ⟨Bn, 0, none⟩ = some (.int .i64 n) ∧ w2.cell? ⟨jb, 0, none⟩ = some (.pointer (some ⟨db, 0, none⟩)) from ⟨(o2.cell (a := ⟨Bj, 0, none⟩) h1.bj.lt h1.nb).trans h1.bj.cell, (o2.cell (a := ⟨Bn, 0, none⟩) (Nat.lt_of_lt_of_le hr.lt o1'.size) hnr).trans Q1.out.2.1, q2.1⟩); clear q2)
      | (go_at_call 63; refine (N63.out _).mono ?_; rintro e w1 ⟨rfl, o1⟩; have o1' := (Only.drew Nob w).trans o1 (fun _ _ h => h); have h1 := h.other o1' (fun _ _ h => h) (fun h => h) (fun h => h); have Q1 := Lib.hid (show w1.cell? ⟨Bj, 0, none⟩ = some (.pointer (some ⟨jb, 0, none⟩)) ∧ w1.cell? ⟨Bn, 0, none⟩ = some (.int .i64 n) ∧ w1.cell? ⟨jb, 0, none⟩ = some (.pointer (some ⟨db, 0, none⟩)) from ⟨h1.bj.cell, (o1'.cell (a := ⟨Bn, 0, none⟩) hr.lt (fun h => h)).trans cr, h1.jh.cells.1⟩)))
  go_wp2
  go_ret
  exact ⟨by simp, mid_post h.dk.lt o1' d2 o2⟩

end Go.Proofs.Ytdpebdghhgojaaa
