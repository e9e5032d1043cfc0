/- The walk of Append: all its ways. -/
import Derived.Test.YtdpebdghhgojaaaJSteps
namespace Go.Proofs.Ytdpebdghhgojaaa
open Go.RowKit

/-- What Append leaves where the record fits and the journal is not broken: p is what the steps made. -/
def AppPost (fd : Nat → Prop) (jb db : Nat) (js : JS) (r : List UInt8) (p : DS × Int) (w : World) (e : Ending) (w' : World) : Prop :=
  e = .returned (.int .i64 p.2) ∧ JHdr w' jb db (if p.2 = 0 then ⟨js.many + 1, js.bytes + r.length + 16, js.end_ + 4 + r.length, false⟩ else { js with broken := true }) ∧ DiskAt w' (grow fd w w') db p.1 ∧ Only (fun k => fd k ∨ k = jb) w w'

theorem app_end {w : World} {jb db : Nat} {js : JS} (h : JHdr w jb db js) (r : List UInt8) (n : Nat) :
    JHdr (((w.setCell ⟨jb, 1, none⟩ (.int .i64 ((js.many : Int) + 1))).setCell ⟨jb, 2, none⟩ (.int .i64 ((js.bytes : Int) + ((r.length : Int) + 16)))).setCell ⟨jb, 3, none⟩ (.int .i64 n)) jb db ⟨js.many + 1, js.bytes + r.length + 16, n, js.broken⟩ ∧
    Only (Is jb) w (((w.setCell ⟨jb, 1, none⟩ (.int .i64 ((js.many : Int) + 1))).setCell ⟨jb, 2, none⟩ (.int .i64 ((js.bytes : Int) + ((r.length : Int) + 16)))).setCell ⟨jb, 3, none⟩ (.int .i64 n)) := by
  have j := ((h.many' (js.many + 1)).bytes' (js.bytes + r.length + 16)).end' n
  have e1 : (((js.many + 1 : Nat)) : Int) = (js.many : Int) + 1 := by omega
  have e2 : (((js.bytes + r.length + 16 : Nat)) : Int) = (js.bytes : Int) + ((r.length : Int) + 16) := by omega
  rw [e1, e2] at j
  exact ⟨j, (Only.setCell (S := Is jb) _ ⟨jb, 1, none⟩ _ rfl).trans ((Only.setCell (S := Is jb) _ ⟨jb, 2, none⟩ _ rfl).trans (Only.setCell (S := Is jb) _ ⟨jb, 3, none⟩ _ rfl) (fun _ _ h => h)) (fun _ _ h => h)⟩

theorem mid_disk {fd : Nat → Prop} {w w1 w3 : World} {b : Nat} {d : DS} (hfl : ∀ k, fd k → k < w.heap.size) (a0 : Only Nob w w1) (d3 : DiskAt w3 (grow fd w1 w3) b d) (z : w1.heap.size ≤ w3.heap.size) : DiskAt w3 (grow fd w w3) b d := by
  have z1 := a0.size
  refine d3.mono ?_ (grow_lt hfl (by omega))
  rintro k (hk | ⟨hk, hk2⟩)
  · exact .inl hk
  · exact .inr ⟨by omega, hk2⟩

theorem two_boxes (w : World) (u v : Value) (s t : TypeId) : Boxed ((w.alloc (.cells #[u] s)).alloc (.cells #[v] t)) w.heap.size s u ∧ Boxed ((w.alloc (.cells #[u] s)).alloc (.cells #[v] t)) (w.heap.size + 1) t v ∧ Only Nob w ((w.alloc (.cells #[u] s)).alloc (.cells #[v] t)) := by
  refine ⟨?_, ?_, (Only.alloc Nob _ _).trans (Only.alloc Nob _ _) (fun _ _ h => h)⟩
  · exact (Boxed.new w s u).alloc _
  · have := Boxed.new (w.alloc (.cells #[u] s)) t v
    rwa [World.size_alloc] at this

/-- The world in which Append calls steps. -/
def appW (w : World) (jb : Nat) (r : List UInt8) (n : Nat) : World :=
  ((((w.alloc (.cells #[.pointer (some ⟨jb, 0, none⟩)] 65)).alloc (.cells #[.string ⟨r.toArray⟩] 9)).alloc (.cells #[.int .i64 n] 3)).alloc
    (.cells #[.func (.func 62) #[] #[.pointer (some ⟨w.heap.size, 0, none⟩), .pointer (some ⟨w.heap.size + 1, 0, none⟩)], .func (.func 64) #[] #[.pointer (some ⟨w.heap.size, 0, none⟩), .pointer (some ⟨w.heap.size + 1 + 1, 0, none⟩)]] 46)).drew.drew

theorem appW_at (w : World) (jb : Nat) (r : List UInt8) (n : Nat) : Only Nob w (appW w jb r n) ∧ Boxed (appW w jb r n) w.heap.size 65 (.pointer (some ⟨jb, 0, none⟩)) ∧ Boxed (appW w jb r n) (w.heap.size + 1) 9 (SV r) ∧ Boxed (appW w jb r n) (w.heap.size + 1 + 1) 3 (.int .i64 n) ∧
    (appW w jb r n).heap[w.heap.size + 1 + 1 + 1]? = some (.cells #[.func (.func 62) #[] #[.pointer (some ⟨w.heap.size, 0, none⟩), .pointer (some ⟨w.heap.size + 1, 0, none⟩)], .func (.func 64) #[] #[.pointer (some ⟨w.heap.size, 0, none⟩), .pointer (some ⟨w.heap.size + 1 + 1, 0, none⟩)]] 46 (0, 0)) ∧ (appW w jb r n).heap.size = w.heap.size + 4 := by
  have hat : ∀ i, (appW w jb r n).heap[w.heap.size + i]? = [Obj.cells #[.pointer (some ⟨jb, 0, none⟩)] 65 (0, 0), .cells #[.string ⟨r.toArray⟩] 9 (0, 0), .cells #[.int .i64 n] 3 (0, 0), .cells #[.func (.func 62) #[] #[.pointer (some ⟨w.heap.size, 0, none⟩), .pointer (some ⟨w.heap.size + 1, 0, none⟩)], .func (.func 64) #[] #[.pointer (some ⟨w.heap.size, 0, none⟩), .pointer (some ⟨w.heap.size + 1 + 1, 0, none⟩)]] 46 (0, 0)][i]? := by
    intro i
    have e : (appW w jb r n).heap.toList = w.heap.toList ++ [Obj.cells #[.pointer (some ⟨jb, 0, none⟩)] 65 (0, 0), .cells #[.string ⟨r.toArray⟩] 9 (0, 0), .cells #[.int .i64 n] 3 (0, 0), .cells #[.func (.func 62) #[] #[.pointer (some ⟨w.heap.size, 0, none⟩), .pointer (some ⟨w.heap.size + 1, 0, none⟩)], .func (.func 64) #[] #[.pointer (some ⟨w.heap.size, 0, none⟩), .pointer (some ⟨w.heap.size + 1 + 1, 0, none⟩)]] 46 (0, 0)] := by
      show ((((w.alloc _).alloc _).alloc _).alloc _).heap.toList = _
      simp only [heap_alloc_list, List.append_assoc, List.cons_append, List.nil_append]
    rw [← Array.getElem?_toList, e, List.getElem?_append_right (by simp)]
    simp
  refine ⟨?_, hat 0, hat 1, hat 2, hat 3, by simp [appW]⟩
  exact ((Only.alloc Nob _ _).trans ((Only.alloc Nob _ _).trans ((Only.alloc Nob _ _).trans ((Only.alloc Nob _ _).trans ((Only.drew _ _).trans (Only.drew _ _) (fun _ _ h => h)) (fun _ _ h => h)) (fun _ _ h => h)) (fun _ _ h => h)) (fun _ _ h => h))

set_option maxRecDepth 100000 in
set_option maxHeartbeats 1000000 in
theorem append_broken (jb db : Nat) (js : JS) (r : List UInt8) (w : World) (hj : JHdr w jb db js) (hb : js.broken = true) :
    Calls Try.prog 42 #[.pointer (some ⟨jb, 0, none⟩), SV r] w fun e w' => e = .returned (.int .i64 70) ∧ Only Nob w w' := by
  unfold SV
  obtain ⟨bj, br, o⟩ := two_boxes w (.pointer (some ⟨jb, 0, none⟩)) (.string ⟨r.toArray⟩) 65 9
  have h1 := hj.other o (fun h => h)
  obtain ⟨c0, c1, c2, c3, c4⟩ := h1.cells
  rw [hb] at c4
  have HO := Lib.hid o
  clear bj br o hb
  go_enter Try.func42, Try.ntmps42
  go_wp2_with fail
  go_ret
  exact ⟨rfl, HO.out⟩

set_option maxRecDepth 100000 in
set_option maxHeartbeats 1000000 in
theorem append_full (jb db : Nat) (js : JS) (r : List UInt8) (w : World) (hj : JHdr w jb db js) (hb : js.broken = false) (hby : js.bytes ≤ 1000000000) (hrl : r.length ≤ 1000000000) (hf : 16777216 < js.bytes + r.length + 272) :
    Calls Try.prog 42 #[.pointer (some ⟨jb, 0, none⟩), SV r] w fun e w' => e = .returned (.int .i64 2) ∧ Only Nob w w' := by
  unfold SV
  obtain ⟨bj, br, o⟩ := two_boxes w (.pointer (some ⟨jb, 0, none⟩)) (.string ⟨r.toArray⟩) 65 9
  have h1 := hj.other o (fun h => h)
  obtain ⟨c0, c1, c2, c3, c4⟩ := h1.cells
  rw [hb] at c4
  have k1 := bj.cell
  have k2 := br.cell
  have HO := Lib.hid o
  obtain ⟨q1, h1'⟩ : ∃ q : Nat, q = js.bytes + r.length := ⟨_, rfl⟩
  obtain ⟨q2, h2'⟩ : ∃ q : Nat, q = q1 + 16 := ⟨_, rfl⟩
  obtain ⟨q3, h3'⟩ : ∃ q : Nat, q = q2 + 256 := ⟨_, rfl⟩
  have s1 : IntKind.i64.wrap ((js.bytes : Int) + (r.length : Int)) = (q1 : Int) := by rw [IntWalk.i64_in _ (by omega)]; omega
  have s2 : IntKind.i64.wrap ((q1 : Int) + 16) = (q2 : Int) := by rw [IntWalk.i64_in _ (by omega)]; omega
  have s3 : IntKind.i64.wrap ((q2 : Int) + 256) = (q3 : Int) := by rw [IntWalk.i64_in _ (by omega)]; omega
  have s4 : decide ((16777216 : Int) < (q3 : Int)) = true := by rw [decide_eq_true_iff]; omega
  clear bj br o hb c1 c3 h1' h2' h3' hf
  go_enter Try.func42, Try.ntmps42
  go_wp2_with fail
  go_region_held3 (fun w' => w'.cell? ⟨w.heap.size, 0, none⟩ = some (.pointer (some ⟨jb, 0, none⟩)) ∧ w'.cell? ⟨w.heap.size + 1, 0, none⟩ = some (.string ⟨r.toArray⟩) ∧ w'.cell? ⟨jb, 2, none⟩ = some (.int .i64 js.bytes)) (first | exact ⟨k1, k2, c2⟩ | go_keep) (fail)
  go_wp2_with fail
  go_ret
  exact ⟨rfl, HO.out.trans (Only.drew _ _) (fun _ _ h => h)⟩

set_option maxRecDepth 100000 in
set_option maxHeartbeats 1000000 in
theorem append_do (fd : Nat → Prop) (jb db : Nat) (js : JS) (d : DS) (r : List UInt8) (w : World) (hj : JHdr w jb db js) (hd : DiskAt w fd db d) (hn : ¬ fd jb) (hb : js.broken = false) (hf : js.bytes + r.length + 272 ≤ 16777216) (hen : js.end_ ≤ 20000000) (he64 : 64 ≤ js.end_) (hmany : js.many ≤ 20000000) (hcl : d.calls < 99990) :
    Calls Try.prog 42 #[.pointer (some ⟨jb, 0, none⟩), SV r] w (AppPost fd jb db js r (d.app js.end_ r) w) := by
  unfold SV
  obtain ⟨bj, br, o⟩ := two_boxes w (.pointer (some ⟨jb, 0, none⟩)) (.string ⟨r.toArray⟩) 65 9
  have h1 := hj.other o (fun h => h)
  obtain ⟨c0, c1, c2, c3, c4⟩ := h1.cells
  rw [hb] at c4
  have k1 := bj.cell
  have k2 := br.cell
  have HO := Lib.hid o
  obtain ⟨q1, h1'⟩ : ∃ q : Nat, q = js.bytes + r.length := ⟨_, rfl⟩
  obtain ⟨q2, h2'⟩ : ∃ q : Nat, q = q1 + 16 := ⟨_, rfl⟩
  obtain ⟨q3, h3'⟩ : ∃ q : Nat, q = q2 + 256 := ⟨_, rfl⟩
  have s1 : IntKind.i64.wrap ((js.bytes : Int) + (r.length : Int)) = (q1 : Int) := by rw [IntWalk.i64_in _ (by omega)]; omega
  have s2 : IntKind.i64.wrap ((q1 : Int) + 16) = (q2 : Int) := by rw [IntWalk.i64_in _ (by omega)]; omega
  have s3 : IntKind.i64.wrap ((q2 : Int) + 256) = (q3 : Int) := by rw [IntWalk.i64_in _ (by omega)]; omega
  have s4 : decide ((16777216 : Int) < (q3 : Int)) = false := by rw [decide_eq_false_iff_not]; omega
  have HB := Lib.hid hb
  have HJ := Lib.hid (And.intro bj br)
  have hrl : r.length ≤ 16777216 := by omega
  have hby : js.bytes ≤ 16777216 := by omega
  clear bj br o hb c1 h1' h2' h3' hf
  go_enter Try.func42, Try.ntmps42
  go_wp2_with fail
  go_region_held3 (fun w' => w'.cell? ⟨w.heap.size, 0, none⟩ = some (.pointer (some ⟨jb, 0, none⟩)) ∧ w'.cell? ⟨w.heap.size + 1, 0, none⟩ = some (.string ⟨r.toArray⟩) ∧ w'.cell? ⟨jb, 2, none⟩ = some (.int .i64 js.bytes)) (first | exact ⟨k1, k2, c2⟩ | go_keep) (fail)
  obtain ⟨n1, h1'⟩ : ∃ q : Nat, q = js.end_ + 4 := ⟨_, rfl⟩
  obtain ⟨n2, h2'⟩ : ∃ q : Nat, q = js.end_ + 4 + r.length := ⟨_, rfl⟩
  have t1 : IntKind.i64.wrap ((js.end_ : Int) + 4) = (n1 : Int) := by rw [IntWalk.i64_in _ (by omega)]; omega
  have t2 : IntKind.i64.wrap ((n1 : Int) + (r.length : Int)) = (n2 : Int) := by rw [IntWalk.i64_in _ (by omega)]; omega
  have HN := Lib.hid h2'
  clear h1' h2' s1 s2 s3
  have := World.new_ne _ _ k1
  have := World.new_ne _ _ k2
  have := World.new_ne _ _ c3
  have hmf : ∀ (fn : Fn) (first cap : Array Value) (w : World), (Instr.makeFunc fn first cap).run Try.prog w = .ok (.func fn first cap) w := fun _ _ _ _ => rfl
  go_wp2_with fail
  go_region_held3 (fun w' => w'.cell? ⟨w.heap.size, 0, none⟩ = some (.pointer (some ⟨jb, 0, none⟩)) ∧ w'.cell? ⟨w.heap.size + 1, 0, none⟩ = some (.string ⟨r.toArray⟩) ∧ w'.cell? ⟨jb, 3, none⟩ = some (.int .i64 js.end_)) (first | exact ⟨k1, k2, c3⟩ | go_keep) (fail)
  have A := Lib.hid (appW_at w jb r n2)
  have P61 := Lib.hid <| show Calls Try.prog 61 #[.pointer (some ⟨jb, 0, none⟩), .slice (some ⟨w.heap.size + 1 + 1 + 1, 0, none⟩) 2 2] (appW w jb r n2) (StepsPost fd jb db js (d.app js.end_ r) (appW w jb r n2)) by
    obtain ⟨a0, a1, a2, a3, a4, a5⟩ := A.out
    have hl := hj.lt
    have hfl := hd.lt
    have nf : ∀ k, w.heap.size ≤ k → ¬ fd k := fun k hk hf => by have := hfl k hf; omega
    exact steps_any _ ⟨a1, hj.other a0 (fun h => h), hd.other a0 (fun _ _ h => h), hn, nf _ (Nat.le_refl _)⟩ a2 (by rw [← HN.out]; exact a3) a4 ⟨nf _ (by omega), nf _ (by omega), nf _ (by omega)⟩ HB.out hcl (by omega) (by omega) he64
  unfold appW at P61
  go_wp2_with fail
  refine P61.out.mono ?_
  rintro e w3 ⟨rfl, j3, d3, o3⟩
  change Only (fun k => fd k ∨ k = jb) (appW w jb r n2) w3 at o3
  obtain ⟨a0, a1, a2, a3, a4, a5⟩ := A.out
  have hl := hj.lt
  have hfl := hd.lt
  have nf : ∀ k, w.heap.size ≤ k → ¬ (fd k ∨ k = jb) := fun k hk hf => by
    rcases hf with hf | hf
    · have := hfl k hf; omega
    · omega
  have b1 : Boxed w3 w.heap.size 65 (.pointer (some ⟨jb, 0, none⟩)) := (o3.block _ a1.lt (nf _ (Nat.le_refl _))).trans a1
  have b2 : Boxed w3 (w.heap.size + 1) 9 (SV r) := (o3.block _ a2.lt (nf _ (by omega))).trans a2
  have b3 : Boxed w3 (w.heap.size + 1 + 1) 3 (.int .i64 n2) := (o3.block _ a3.lt (nf _ (by omega))).trans a3
  have HO : Only (fun k => fd k ∨ k = jb) w w3 := (a0.mono (T := fun k => fd k ∨ k = jb) (fun _ _ h => h.elim)).trans o3 (fun _ _ h => h)
  have HD : DiskAt w3 (grow fd w w3) db (d.app js.end_ r).1 := (mid_disk hfl a0 d3 o3.size)
  clear A P61 d3 o3 a0 a1 a2 a3 a4 a5 hj hd k1 k2 c0 c2 c3 c4 HJ
  generalize d.app js.end_ r = p at *
  by_cases hp : p.2 = 0
  · have hb1 : (p.2 != 0) = false := by simp [hp]
    rw [hb1] at j3
    obtain ⟨c0, c1, c2, c3, c4⟩ := j3.cells
    have f := j3.free
    have k1 := b1.cell
    have k2 : w3.cell? ⟨w.heap.size + 1, 0, none⟩ = some (.string ⟨r.toArray⟩) := b2.cell
    have k3 := b3.cell
    have n1 : w.heap.size ≠ jb := by omega
    have n2' : w.heap.size + 1 ≠ jb := by omega
    have n3 : w.heap.size + 1 + 1 ≠ jb := by omega
    have JJ := Lib.hid j3
    have HP := Lib.hid hp
    clear hp c0 c4 b1 b2 b3 j3
    rw [HP.out]
    simp only [] at c1 c2 c3
    go_wp2_with fail
    go_region
    all_goals
      go_wp2_with fail
      go_ret
      obtain ⟨jF, oF⟩ := app_end JJ.out r n2
      have oF2 := oF.trans (Only.drew (Is jb) _) (fun _ _ h => h)
      refine ⟨by rw [HP.out]; rfl, ?_, ?_, HO.trans oF2 (fun _ _ h => .inr h)⟩
      · rw [if_pos HP.out, ← HN.out]; exact jF
      · refine (HD.other oF2 (fun k hk hx => ?_)).mono (fun k hk => ?_) (grow_lt hfl (Nat.le_trans HO.size oF2.size))
        · obtain rfl : k = jb := hx
          rcases hk with hk | ⟨hk, _⟩
          · exact hn hk
          · omega
        · rcases hk with hk | ⟨hk, hk2⟩
          · exact .inl hk
          · exact .inr ⟨hk, Nat.lt_of_lt_of_le hk2 oF2.size⟩
  · have hb1 : (p.2 != 0) = true := by simpa using hp
    go_wp2_with fail
    go_ret
    rw [hb1] at j3
    exact ⟨rfl, by rw [if_neg hp]; exact j3, HD, HO⟩

end Go.Proofs.Ytdpebdghhgojaaa
