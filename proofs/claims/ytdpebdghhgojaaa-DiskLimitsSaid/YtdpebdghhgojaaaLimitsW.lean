/- The walk of DiskLimits. -/
import Derived.Test.YtdpebdghhgojaaaOwn
namespace Go.Proofs.Ytdpebdghhgojaaa
open Go.RowKit

theorem zstr_later (w w' : World) (k : Nat) (hk : k ≤ 140737488355328) (o : Only Nob (zeroWorld w k) w') : (convert 56 9 (.slice (some ⟨w.heap.size, 0, none⟩) k k)).run Try.prog w' = .ok (.string ⟨(List.replicate k (0 : UInt8)).toArray⟩) w' := by
  have h := run_str_of w' w.heap.size k (List.replicate k 0) (by
    have := (Row.other (zeroWorld_row w k hk) o (fun _ _ h => h)).src (by simp)
    simpa using this)
  simpa using h

theorem wpAnyH_weaken0 {P : Program} {md : Region.Mode} {ops : Array Oper} {Q : Exit → Act → World → Prop} {S T : World → Prop} (hTS : ∀ w, T w → S w) : ∀ (fuel : Nat) (listed : Array Bool) (a : Act) (w : World), wpAnyH P md ops Q T fuel listed a w → wpAnyH P md ops Q S fuel listed a w
  | 0, _, _, _, h => h
  | fuel + 1, _, _, _, h => ⟨h.1, fun i hi => wpOp_mono (fun a' w' h' => ⟨hTS _ h'.1, wpAnyH_weaken0 hTS fuel _ a' w' h'.2⟩) (h.2 i hi)⟩

theorem zeroWorld_lt (w : World) (k : Nat) : w.heap.size < (zeroWorld w k).heap.size := by have := zeroWorld_size w k; omega

theorem zstr_on {S : Nat → Prop} (w w' : World) (k : Nat) (hk : k ≤ 140737488355328) (o : Only S (zeroWorld w k) w') (hS : ¬ S w.heap.size) : (convert 56 9 (.slice (some ⟨w.heap.size, 0, none⟩) k k)).run Try.prog w' = .ok (.string ⟨(List.replicate k (0 : UInt8)).toArray⟩) w' := by
  have h := run_str_of w' w.heap.size k (List.replicate k 0) (by
    have := (Row.other (zeroWorld_row w k hk) o (fun j hj h => by
      have e : w.heap.size = j := by simpa [Blk, Value.ownBlock] using hj
      rw [← e] at h
      exact hS h)).src (by simp)
    simpa using this)
  simpa using h

set_option maxRecDepth 100000 in
set_option maxHeartbeats 4000000 in
theorem limits_walk (far n off : Int) (w : World) (hf : Rng far) (hn : Rng n) (hoff : Rng off) :
    Calls Try.prog 11 #[.int .i64 far, .int .i64 n, .int .i64 off] w fun e w' => e = .returned (.bool true) ∧ Only Nob w w' := by
  have m0 : 0 ≤ far % 7 := Int.emod_nonneg _ (by omega)
  have m1 : far % 7 < 7 := Int.emod_lt_of_pos _ (by omega)
  have m2 : 0 ≤ n % 70 := Int.emod_nonneg _ (by omega)
  have m3 : n % 70 < 70 := Int.emod_lt_of_pos _ (by omega)
  have m4 : 0 ≤ off % 500 := Int.emod_nonneg _ (by omega)
  have m5 : off % 500 < 500 := Int.emod_lt_of_pos _ (by omega)
  obtain ⟨n0, hn0⟩ := Int.eq_ofNat_of_zero_le m0
  obtain ⟨n1, hn1⟩ := Int.eq_ofNat_of_zero_le m2
  obtain ⟨k, hk0⟩ := Int.eq_ofNat_of_zero_le m4
  have M0 := Lib.hid <| show ∀ w, Calls Try.prog 28 #[.int .i64 far, .int .i64 7] w fun e w' => e = .returned (.int .i64 (n0 : Nat)) ∧ w = w' from fun w => by have h := mod_any far 7 w hf (by omega) (by omega); rw [hn0] at h; exact h
  have M1 := Lib.hid <| show ∀ w, Calls Try.prog 28 #[.int .i64 n, .int .i64 70] w fun e w' => e = .returned (.int .i64 (n1 : Nat)) ∧ w = w' from fun w => by have h := mod_any n 70 w hn (by omega) (by omega); rw [hn1] at h; exact h
  have M2 := Lib.hid <| show ∀ w, Calls Try.prog 28 #[.int .i64 off, .int .i64 500] w fun e w' => e = .returned (.int .i64 (k : Nat)) ∧ w = w' from fun w => by have h := mod_any off 500 w hoff (by omega) (by omega); rw [hk0] at h; exact h
  have M3 : ∃ aB : ByteArray, aB.size = n1 ∧ ∀ w, Calls Try.prog 32 #[.int .u8 113, .int .i64 (n1 : Nat)] w (LongPost aB w) := ⟨⟨(List.replicate n1 113).toArray⟩, by simp [ByteArray.size], fun w => repeated_any 113 n1 w (by omega)⟩
  obtain ⟨aB, hab, M3⟩ := M3
  have M3 := Lib.hid M3
  obtain ⟨p1, hp1⟩ : ∃ p1 : Nat, p1 = 16777216 - n1 := ⟨_, rfl⟩
  obtain ⟨p2, hp2⟩ : ∃ p2 : Nat, p2 = 16777216 - n1 - 3 := ⟨_, rfl⟩
  obtain ⟨p3, hp3⟩ : ∃ p3 : Nat, p3 = 16777216 - n1 - 3 + n0 := ⟨_, rfl⟩
  have hw1 : IntKind.i64.wrap (16777216 - (n1 : Nat)) = (p1 : Nat) := by rw [IntWalk.i64_in _ (by omega)]; omega
  have hw2 : IntKind.i64.wrap ((p1 : Nat) - 3) = (p2 : Nat) := by rw [IntWalk.i64_in _ (by omega)]; omega
  have hw3 : IntKind.i64.wrap ((p2 : Nat) + (n0 : Nat)) = (p3 : Nat) := by rw [IntWalk.i64_in _ (by omega)]; omega
  have hb : n1 < 70 ∧ k < 500 ∧ p3 ≤ 16777220 := ⟨by omega, by omega, by omega⟩
  clear hn0 hn1 hk0 hp1 hp2 hp3 m0 m1 m2 m3 m4 m5
  go_enter Try.func11, Try.ntmps11
  go_wp2_with fail
  refine (sanity_any _).mono ?_
  rintro e w0 ⟨rfl, o0⟩
  go_wp2_with fail
  refine (new_any _).mono ?_
  rintro e w1 ⟨b, rfl, -, d1, o1, -⟩
  go_wp2_with fail
  refine (rnew_any _).mono ?_
  rintro e w2 ⟨rb, rfl, -, r2, o2⟩
  obtain ⟨hdesk, o3⟩ := desk_new d1 o1 r2 o2
  have s3 := (Since.nob w0).grow (b := w2.alloc (.cells #[.pointer (some ⟨b, 0, none⟩), .pointer (some ⟨rb, 0, none⟩)] 30)) (Nat.le_refl _)
  clear d1 r2 o1 o2
  obtain ⟨hltd, fd, fr, db, rb4, hi⟩ := hdesk
  obtain ⟨c0, c1⟩ := hi.hdr.cells
  go_wp2_with fail
  refine (M1.out _).mono ?_
  rintro e w' ⟨rfl, rfl⟩
  go_wp2_with fail
  refine (M3.out _).mono ?_
  rintro e w3 ⟨rfl, o4⟩
  have od := Only.drew Nob w3
  have hi3 := hi.other (o4.trans od (fun _ _ h => h)) (fun _ _ h => h)
  obtain ⟨c30, c31⟩ := hi3.hdr.cells
  have hlt3 := hi3.disk.lt
  have hrl3 := hi3.ref.lt
  clear c0 c1
  go_wp2_with fail
  go_region_held3 (fun w' => w'.cell? ⟨w2.heap.size, 0, none⟩ = some (.pointer (some ⟨db, 0, none⟩)))
    (first | exact u0 | exact c30 | go_keep)
    (first
      | (go_at_call 33; refine (write_all fd db p3 aB .new _ hi3.disk (by decide) (rng_small (by omega) (by omega)) (by omega)).mono ?_; rintro e w5 ⟨rfl, d5, o5⟩; have h5 := hi3.hdr.other o5 (fun h => (hi3.ad _ h).2 rfl); have u0 := h5.cells.1)
      | (go_at_call 28; refine (M0.out _).mono ?_; rintro e w' ⟨rfl, rfl⟩))
  have z5 := o5.mono (T := grow Nob w0 (w2.alloc (.cells #[.pointer (some ⟨b, 0, none⟩), .pointer (some ⟨rb, 0, none⟩)] 30))) (fun j _ hj => (hi3.ad j hj).1)
  have q5 := s3.only ((o3.trans o4 (fun _ _ h => h)).trans od (fun _ _ h => h)) z5
  have r5 := hi3.ref.other o5 (fun j hj hx => (hi3.ar j hj).2.2 hx)
  have od5 := Only.drew Nob w5
  have d6 := d5.other od5 (fun _ _ h => h)
  have r6 := r5.other od5 (fun _ _ h => h)
  have h6 := h5.other od5 (fun h => h)
  have v1 := h5.cells.2
  have v2 := h6.cells.2
  have hdis : ∀ j, grow fd w3.drew w5 j → ¬ fr j := fun j hj hr => by
    rcases hj with h | ⟨h, _⟩
    · exact (hi3.ar j hr).2.2 h
    · have := hrl3 j hr; omega
  have hdis := Lib.hid hdis
  go_wp2_with fail
  go_region_held3 (fun w' => w'.cell? ⟨w2.heap.size, 1, none⟩ = some (.pointer (some ⟨rb4, 0, none⟩)))
    (first | exact u0' | exact v2 | go_keep)
    (first
      | (go_at_call 38; refine (rwrite_all fr rb4 p3 aB .new _ r6 (by decide) (rng_small (by omega) (by omega)) (by omega)).mono ?_; rintro e w7 ⟨rfl, r7, o7⟩; have h7 := h6.other o7 (fun h => (hi3.ar _ h).2.1 rfl); have u0' := h7.cells.2)
      | (go_at_call 28; refine (M0.out _).mono ?_; rintro e w' ⟨rfl, rfl⟩))
  have d7 := d6.other o7 (fun j hj hr => hdis.out j hj hr)
  have z7 := o7.mono (T := grow Nob w0 (w2.alloc (.cells #[.pointer (some ⟨b, 0, none⟩), .pointer (some ⟨rb, 0, none⟩)] 30))) (fun j _ hj => (hi3.ar j hj).1)
  have q7 := s3.only (q5.trans od5 (fun _ _ h => h)) z7
  clear u0 u0' z5 z7 v1 v2 hltd hi hi3 c30 c31 q5 r5 r6 d5 d6 h5 h6 o5 o7 o4 hlt3 hrl3
  generalize DS.new.wrE p3 aB.data.toList = E at *
  generalize DS.new.wr p3 aB.data.toList = dd at d7 r7
  go_wp2_with fail
  refine (new_any _).mono ?_
  rintro e w8 ⟨b2, rfl, -, d8, o8, -⟩
  have n8 := (Since.nob w7).grow (b := w8) (Nat.le_refl _)
  go_wp2_with fail
  refine (M2.out _).mono ?_
  rintro e w' ⟨rfl, rfl⟩
  go_wp2_with fail
  refine (write_fine _ b2 k ⟨#[]⟩ _ _ d8 (by decide) rfl (by omega) (by simp [ByteArray.size]; omega)).mono ?_
  rintro e w9 ⟨rfl, d9, o9⟩
  have q9 := n8.only o8 o9
  have q8 := o8
  have hxl := h7.lt
  have hx9 := h7.other q9 (fun h => h)
  have e9 := d7.other q9 (fun _ _ h => h)
  have r9 := r7.other q9 (fun _ _ h => h)
  have hput : (DS.new.written (k : Int).toNat (⟨#[]⟩ : ByteArray).data.toList).now = List.replicate k 0 := by
    show put [] (k : Int).toNat [] = _
    simp [put]
  have hf9 : (DS.new.written (k : Int).toNat (⟨#[]⟩ : ByteArray).data.toList).calls = 1 := rfl
  generalize DS.new.written (k : Int).toNat (⟨#[]⟩ : ByteArray).data.toList = dk at d9 hput hf9
  have hlen : dk.now.length = k := by rw [hput]; simp
  have hread : dk.read 0 (k + 1 : Nat) = List.replicate k 0 := by
    unfold DS.read
    rw [if_neg (by omega), hput]
    simp
  have HP := Lib.hid (And.intro hput (And.intro hf9 (And.intro hlen hread)))
  have z89 := o9.size
  clear hput hf9 hread d8 o8 o9 h7 d7 r7
  go_wp2_with fail
  have od9 := Only.drew Nob w9
  have hx := hx9.other od9 (fun h => h)
  have e10 := e9.other od9 (fun _ _ h => h)
  have r10 := r9.other od9 (fun _ _ h => h)
  have d10 := d9.other od9 (fun _ _ h => h)
  obtain ⟨c0, c1⟩ := hx9.cells
  have hw4 : IntKind.i64.wrap ((k : Nat) + 1) = ((k + 1 : Nat) : Int) := by rw [IntWalk.i64_in _ (by omega)]; omega
  have hz : ∀ w, (Instr.makeSlice 56 (.int .i64 k) (.int .i64 k)).run Try.prog w = .ok (.slice (some ⟨w.heap.size, 0, none⟩) k k) (zeroWorld w k) := fun w => run_zeros w k (by omega)
  have hzc : ∀ w, (convert 56 9 (.slice (some ⟨w.heap.size, 0, none⟩) k k)).run Try.prog (zeroWorld w k) = .ok (.string ⟨(List.replicate k (0 : UInt8)).toArray⟩) (zeroWorld w k) := fun w => run_zstr w k (by omega)
  obtain ⟨x1, hx1⟩ : ∃ x1 : Int, x1 = -1 - (k : Int) := ⟨_, rfl⟩
  obtain ⟨x2, hx2⟩ : ∃ x2 : Int, x2 = 9223372036854775807 - (k : Int) := ⟨_, rfl⟩
  have hw5 : IntKind.i64.wrap (-1 - (k : Nat)) = x1 := by rw [IntWalk.i64_in _ (by omega)]; omega
  have hw6 : IntKind.i64.wrap (9223372036854775807 - (k : Nat)) = x2 := by rw [IntWalk.i64_in _ (by omega)]; omega
  have hcalls : dk.calls < 100000 := by rw [HP.out.2.1]; decide
  have W1 := Lib.hid <| show ∀ w fp, DiskAt w fp b2 dk → Calls Try.prog 33 #[.pointer (some ⟨b2, 0, none⟩), .int .i64 x1, .string ⟨#[]⟩] w (DPost fp b2 dk (.int .i64 1) w) from fun w fp hd => by
    have hb : badW x1 [] := by unfold badW; omega
    have h := write_all fp b2 x1 ⟨#[]⟩ dk w hd hcalls ⟨by omega, by omega⟩ (by decide)
    have e1 : dk.wr x1 (⟨#[]⟩ : ByteArray).data.toList = dk := by unfold DS.wr; rw [if_pos (.inl hb)]
    have e2 : dk.wrE x1 (⟨#[]⟩ : ByteArray).data.toList = 1 := by unfold DS.wrE; rw [if_pos hb]
    rw [e1, e2] at h
    exact h
  have W2 := Lib.hid <| show ∀ w fp, DiskAt w fp b2 dk → Calls Try.prog 33 #[.pointer (some ⟨b2, 0, none⟩), .int .i64 x2, .string ⟨#[97, 98]⟩] w (DPost fp b2 dk (.int .i64 1) w) from fun w fp hd => by
    have hb : badW x2 [97, 98] := by unfold badW; omega
    have h := write_all fp b2 x2 ⟨#[97, 98]⟩ dk w hd hcalls ⟨by omega, by omega⟩ (by decide)
    have e1 : dk.wr x2 (⟨#[97, 98]⟩ : ByteArray).data.toList = dk := by unfold DS.wr; rw [if_pos (.inl hb)]
    have e2 : dk.wrE x2 (⟨#[97, 98]⟩ : ByteArray).data.toList = 1 := by unfold DS.wrE; rw [if_pos hb]
    rw [e1, e2] at h
    exact h
  have W3 := Lib.hid <| show ∀ w fp, DiskAt w fp b2 dk → Calls Try.prog 35 #[.pointer (some ⟨b2, 0, none⟩), .int .i64 0, .int .i64 ((k : Int) + 1)] w (ReadPost (List.replicate k 0) w) from fun w fp hd => by
    have h := read_all fp b2 0 (k + 1 : Nat) dk w hd (rng_small (by omega) (by omega)) (rng_small (by omega) (by omega))
    rw [HP.out.2.2.2] at h
    exact h
  have hS9 : Since w7 (grow (grow Nob w7 w8) w8 w9) := n8.grow q8.size
  have HX := Lib.hid (show ¬ grow (grow Nob w7 w8) w8 w9 w2.heap.size from fun h => by have := hS9 _ h; omega)
  have HX2 := Lib.hid (show ∀ (wa wb : World), w7.heap.size ≤ wa.heap.size → ¬ grow (grow (grow Nob w7 w8) w8 w9) wa wb w2.heap.size from fun wa wb hw h => by
    rcases h with h | ⟨h, _⟩
    · exact HX.out h
    · omega)
  have z9 := q9.size
  clear hx1 hx2 hcalls
  have zo : Only Nob w9.drew (zeroWorld w9.drew k) := zeroWorld_only _ _
  have hxz := hx.other zo (fun h => h)
  have d10z := d10.other zo (fun _ _ h => h)
  have z10 := od9.size
  have hk6 : k ≤ 140737488355328 := by omega
  have hzc9 : (convert 56 9 (.slice (some ⟨w9.heap.size, 0, none⟩) k k)).run Try.prog (zeroWorld w9.drew k) = .ok (.string ⟨(List.replicate k (0 : UInt8)).toArray⟩) (zeroWorld w9.drew k) := hzc w9.drew
  obtain ⟨fp9, hfp9⟩ : ∃ fp9 : Nat → Prop, fp9 = grow (grow Nob w7 w8) w8 w9 := ⟨_, rfl⟩
  rw [← hfp9] at d9 d10 d10z HX HX2 hS9
  have H9 := Lib.hid (show ∀ n, w9.heap.size ≤ n → ¬ fp9 n from fun n hn h => by
    rw [hfp9] at h
    have z8 := q8.size
    rcases h with (h | ⟨_, h⟩) | ⟨_, h⟩
    · exact h.elim
    · omega
    · omega)
  clear hfp9
  refine wp_region_held_drew (S := fun w' => w'.cell? ⟨w2.heap.size, 0, none⟩ = some (.pointer (some ⟨db, 0, none⟩)) ∧ w'.cell? ⟨w2.heap.size, 1, none⟩ = some (.pointer (some ⟨rb4, 0, none⟩))) (by kernel_rfl) hx.cells (fun hHeld => ?_)
  refine wpAnyH_take (i := 0) (oi := { dst := some 60, op := Op.move (Operand.tmp 7), type := 4, pos := "law.go:267", after := #[], guard := none }) (v := ?_) rfl (by kernel_rfl) (by kernel_rfl) (by kernel_rfl) (fun _ _ _ h => h) (Or.inl ⟨by rfl, ?hy0_⟩) (by assumption) ?_
  case hy0_ => (intro w hSw; (try dsimp only at hSw); go_simp; try with_reducible rfl)
  try simp only [Act.put, List.setIfInBounds_toArray, List.set_cons_zero, List.set_cons_succ]
  refine wpAnyH_take (i := 1) (oi := { dst := some 61, op := Op.move (Operand.tmp 60), type := 4, pos := "law.go:267", after := #[{ on := 0, ground := Ground.data }], guard := none }) (v := ?_) rfl (by kernel_rfl) (by kernel_rfl) (by kernel_rfl) (fun _ _ _ h => h) (Or.inl ⟨by rfl, ?hy1_⟩) (by assumption) ?_
  case hy1_ => (intro w hSw; (try dsimp only at hSw); go_simp; try with_reducible rfl)
  try simp only [Act.put, List.setIfInBounds_toArray, List.set_cons_zero, List.set_cons_succ]
  refine wpAnyH_take (i := 2) (oi := { dst := some 62, op := Op.move (Operand.tmp 10), type := 44, pos := "law.go:267", after := #[{ on := 1, ground := Ground.guard }], guard := some (1, true) }) (v := ?_) rfl (by kernel_rfl) (by kernel_rfl) (by kernel_rfl) (fun _ _ _ h => h) (Or.inl ⟨by rfl, ?hy2_⟩) (by assumption) ?_
  case hy2_ => (intro w hSw; (try dsimp only at hSw); go_simp; try with_reducible rfl)
  try simp only [Act.put, List.setIfInBounds_toArray, List.set_cons_zero, List.set_cons_succ]
  refine wpAnyH_take (i := 3) (oi := { dst := some 63, op := Op.move (Operand.tmp 11), type := 44, pos := "law.go:267", after := #[{ on := 1, ground := Ground.guard }], guard := some (1, true) }) (v := ?_) rfl (by kernel_rfl) (by kernel_rfl) (by kernel_rfl) (fun _ _ _ h => h) (Or.inl ⟨by rfl, ?hy3_⟩) (by assumption) ?_
  case hy3_ => (intro w hSw; (try dsimp only at hSw); go_simp; try with_reducible rfl)
  try simp only [Act.put, List.setIfInBounds_toArray, List.set_cons_zero, List.set_cons_succ]
  refine wpAnyH_take (i := 4) (oi := { dst := some 64, op := Op.binOp BinOp.eql 44 (Operand.tmp 62) (Operand.tmp 63) 44, type := 4, pos := "law.go:267", after := #[{ on := 2, ground := Ground.data }, { on := 3, ground := Ground.data }, { on := 1, ground := Ground.guard }], guard := some (1, true) }) (v := ?_) rfl (by kernel_rfl) (by kernel_rfl) (by kernel_rfl) (fun _ _ _ h => h) (Or.inl ⟨by rfl, ?hy4_⟩) (by assumption) ?_
  case hy4_ => (intro w hSw; (try dsimp only at hSw); go_simp; try with_reducible rfl)
  try simp only [Act.put, List.setIfInBounds_toArray, List.set_cons_zero, List.set_cons_succ]
  refine wpAnyH_take (i := 5) (oi := { dst := some 65, op := Op.pick (Operand.tmp 61) (Operand.tmp 64) (Operand.const (Value.bool false)), type := 4, pos := "law.go:267", after := #[{ on := 1, ground := Ground.data }, { on := 4, ground := Ground.data }], guard := none }) (v := ?_) rfl (by kernel_rfl) (by kernel_rfl) (by kernel_rfl) (fun _ _ _ h => h) (Or.inl ⟨by rfl, ?hy5_⟩) (by assumption) ?_
  case hy5_ => (intro w hSw; (try dsimp only at hSw); go_simp; try with_reducible rfl)
  try simp only [Act.put, List.setIfInBounds_toArray, List.set_cons_zero, List.set_cons_succ]
  refine wpAnyH_take (i := 6) (oi := { dst := some 66, op := Op.move (Operand.tmp 65), type := 4, pos := "law.go:267", after := #[{ on := 5, ground := Ground.data }, { on := 1, ground := Ground.chain }], guard := none }) (v := ?_) rfl (by kernel_rfl) (by kernel_rfl) (by kernel_rfl) (fun _ _ _ h => h) (Or.inl ⟨by rfl, ?hy6_⟩) (by assumption) ?_
  case hy6_ => (intro w hSw; (try dsimp only at hSw); go_simp; try with_reducible rfl)
  try simp only [Act.put, List.setIfInBounds_toArray, List.set_cons_zero, List.set_cons_succ]
  refine wpAnyH_take (i := 7) (oi := { dst := some 67, op := Op.move (Operand.tmp 8), type := 24, pos := "law.go:267", after := #[{ on := 6, ground := Ground.guard }], guard := some (6, true) }) (v := ?_) rfl (by kernel_rfl) (by kernel_rfl) (by kernel_rfl) (fun _ _ _ h => h) (Or.inl ⟨by rfl, ?hy7_⟩) (by assumption) ?_
  case hy7_ => (intro w hSw; (try dsimp only at hSw); go_simp; try with_reducible rfl)
  try simp only [Act.put, List.setIfInBounds_toArray, List.set_cons_zero, List.set_cons_succ]
  refine wpAnyH_take (i := 8) (oi := { dst := some 68, op := Op.nilCheck (Operand.tmp 67), type := 0, pos := "law.go:267", after := #[{ on := 7, ground := Ground.data }, { on := 6, ground := Ground.guard }], guard := some (6, true) }) (v := ?_) rfl (by kernel_rfl) (by kernel_rfl) (by kernel_rfl) (fun _ _ _ h => h) (Or.inl ⟨by rfl, ?hy8_⟩) (by assumption) ?_
  case hy8_ => (intro w hSw; (try dsimp only at hSw); go_simp; try with_reducible rfl)
  try simp only [Act.put, List.setIfInBounds_toArray, List.set_cons_zero, List.set_cons_succ]
  refine wpAnyH_take (i := 9) (oi := { dst := some 69, op := Op.fieldAddr 30 (Operand.tmp 68) 0, type := 0, pos := "law.go:267", after := #[{ on := 8, ground := Ground.data }, { on := 6, ground := Ground.guard }], guard := some (6, true) }) (v := ?_) rfl (by kernel_rfl) (by kernel_rfl) (by kernel_rfl) (fun _ _ _ h => h) (Or.inl ⟨by rfl, ?hy9_⟩) (by assumption) ?_
  case hy9_ => (intro w hSw; (try dsimp only at hSw); go_simp; try with_reducible rfl)
  try simp only [Act.put, List.setIfInBounds_toArray, List.set_cons_zero, List.set_cons_succ]
  refine wpAnyH_take (i := 10) (oi := { dst := some 70, op := Op.load 25 (Operand.tmp 69), type := 25, pos := "law.go:267", after := #[{ on := 9, ground := Ground.data }, { on := 6, ground := Ground.guard }], guard := some (6, true) }) (v := ?_) rfl (by kernel_rfl) (by kernel_rfl) (by kernel_rfl) (fun _ _ _ h => h) (Or.inl ⟨by rfl, ?hy10_⟩) (by assumption) ?_
  case hy10_ => (intro w hSw; (try dsimp only at hSw); go_simp; try with_reducible rfl)
  try simp only [Act.put, List.setIfInBounds_toArray, List.set_cons_zero, List.set_cons_succ]
  refine wpAnyH_take (i := 12) (oi := { dst := some 72, op := Op.move (Operand.tmp 8), type := 24, pos := "law.go:267", after := #[{ on := 6, ground := Ground.guard }], guard := some (6, true) }) (v := ?_) rfl (by kernel_rfl) (by kernel_rfl) (by kernel_rfl) (fun _ _ _ h => h) (Or.inl ⟨by rfl, ?hy12_⟩) (by assumption) ?_
  case hy12_ => (intro w hSw; (try dsimp only at hSw); go_simp; try with_reducible rfl)
  try simp only [Act.put, List.setIfInBounds_toArray, List.set_cons_zero, List.set_cons_succ]
  refine wpAnyH_take (i := 13) (oi := { dst := some 73, op := Op.nilCheck (Operand.tmp 72), type := 0, pos := "law.go:267", after := #[{ on := 12, ground := Ground.data }, { on := 6, ground := Ground.guard }], guard := some (6, true) }) (v := ?_) rfl (by kernel_rfl) (by kernel_rfl) (by kernel_rfl) (fun _ _ _ h => h) (Or.inl ⟨by rfl, ?hy13_⟩) (by assumption) ?_
  case hy13_ => (intro w hSw; (try dsimp only at hSw); go_simp; try with_reducible rfl)
  try simp only [Act.put, List.setIfInBounds_toArray, List.set_cons_zero, List.set_cons_succ]
  refine wpAnyH_take (i := 14) (oi := { dst := some 74, op := Op.fieldAddr 30 (Operand.tmp 73) 1, type := 0, pos := "law.go:267", after := #[{ on := 13, ground := Ground.data }, { on := 6, ground := Ground.guard }], guard := some (6, true) }) (v := ?_) rfl (by kernel_rfl) (by kernel_rfl) (by kernel_rfl) (fun _ _ _ h => h) (Or.inl ⟨by rfl, ?hy14_⟩) (by assumption) ?_
  case hy14_ => (intro w hSw; (try dsimp only at hSw); go_simp; try with_reducible rfl)
  try simp only [Act.put, List.setIfInBounds_toArray, List.set_cons_zero, List.set_cons_succ]
  refine wpAnyH_take (i := 15) (oi := { dst := some 75, op := Op.load 27 (Operand.tmp 74), type := 27, pos := "law.go:267", after := #[{ on := 14, ground := Ground.data }, { on := 6, ground := Ground.guard }], guard := some (6, true) }) (v := ?_) rfl (by kernel_rfl) (by kernel_rfl) (by kernel_rfl) (fun _ _ _ h => h) (Or.inl ⟨by rfl, ?hy15_⟩) (by assumption) ?_
  case hy15_ => (intro w hSw; (try dsimp only at hSw); go_simp; try with_reducible rfl)
  try simp only [Act.put, List.setIfInBounds_toArray, List.set_cons_zero, List.set_cons_succ]
  refine wpAnyH_ready (rs := [11]) (by kernel_rfl) (by simp) ?_
  refine AllReadyH.cons (o := { dst := some 71, op := Op.call { callee := Callee.value (Operand.func 23), args := #[Operand.tmp 70], argTypes := #[25] }, type := 3, pos := "law.go:267", after := #[{ on := 10, ground := Ground.data }, { on := 6, ground := Ground.chain }, { on := 6, ground := Ground.guard }], guard := some (6, true) }) rfl (fun K hK => ?_) AllReadyH.nil
  go_simp
  refine (size_any _ db dd _ e10).mono ?_
  rintro e w' ⟨rfl, rfl⟩
  refine hK.out _ _ hx.cells (fun hHeld => ?_)
  clear hK K
  try simp only [Act.put, List.setIfInBounds_toArray, List.set_cons_zero, List.set_cons_succ]
  refine wpAnyH_ready (rs := [16]) (by kernel_rfl) (by simp) ?_
  refine AllReadyH.cons (o := { dst := some 76, op := Op.call { callee := Callee.value (Operand.func 24), args := #[Operand.tmp 75], argTypes := #[27] }, type := 3, pos := "law.go:267", after := #[{ on := 15, ground := Ground.data }, { on := 11, ground := Ground.chain }, { on := 6, ground := Ground.guard }], guard := some (6, true) }) rfl (fun K hK => ?_) AllReadyH.nil
  go_simp
  refine (rsize_any _ rb4 dd _ r10).mono ?_
  rintro e w' ⟨rfl, rfl⟩
  refine hK.out _ _ hx.cells (fun hHeld => ?_)
  clear hK K
  try simp only [Act.put, List.setIfInBounds_toArray, List.set_cons_zero, List.set_cons_succ]
  refine wpAnyH_take (i := 17) (oi := { dst := some 77, op := Op.binOp BinOp.eql 3 (Operand.tmp 71) (Operand.tmp 76) 3, type := 4, pos := "law.go:267", after := #[{ on := 11, ground := Ground.data }, { on := 16, ground := Ground.data }, { on := 6, ground := Ground.guard }], guard := some (6, true) }) (v := ?_) rfl (by kernel_rfl) (by kernel_rfl) (by kernel_rfl) (fun _ _ _ h => h) (Or.inl ⟨by rfl, ?hy17_11_16⟩) (by assumption) ?_
  case hy17_11_16 => (intro w hSw; (try dsimp only at hSw); go_simp; try with_reducible rfl)
  try simp only [Act.put, List.setIfInBounds_toArray, List.set_cons_zero, List.set_cons_succ]
  refine wpAnyH_take (i := 18) (oi := { dst := some 78, op := Op.pick (Operand.tmp 66) (Operand.tmp 77) (Operand.const (Value.bool false)), type := 4, pos := "law.go:267", after := #[{ on := 6, ground := Ground.data }, { on := 17, ground := Ground.data }], guard := none }) (v := ?_) rfl (by kernel_rfl) (by kernel_rfl) (by kernel_rfl) (fun _ _ _ h => h) (Or.inl ⟨by rfl, ?hy18_11_16⟩) (by assumption) ?_
  case hy18_11_16 => (intro w hSw; (try dsimp only at hSw); go_simp; try with_reducible rfl)
  try simp only [Act.put, List.setIfInBounds_toArray, List.set_cons_zero, List.set_cons_succ]
  refine wpAnyH_take (i := 19) (oi := { dst := some 79, op := Op.move (Operand.tmp 78), type := 4, pos := "law.go:267", after := #[{ on := 18, ground := Ground.data }, { on := 16, ground := Ground.chain }], guard := none }) (v := ?_) rfl (by kernel_rfl) (by kernel_rfl) (by kernel_rfl) (fun _ _ _ h => h) (Or.inl ⟨by rfl, ?hy19_11_16⟩) (by assumption) ?_
  case hy19_11_16 => (intro w hSw; (try dsimp only at hSw); go_simp; try with_reducible rfl)
  try simp only [Act.put, List.setIfInBounds_toArray, List.set_cons_zero, List.set_cons_succ]
  refine wpAnyH_take (i := 20) (oi := { dst := some 80, op := Op.move (Operand.tmp 14), type := 44, pos := "law.go:267", after := #[{ on := 19, ground := Ground.guard }], guard := some (19, true) }) (v := ?_) rfl (by kernel_rfl) (by kernel_rfl) (by kernel_rfl) (fun _ _ _ h => h) (Or.inl ⟨by rfl, ?hy20_11_16⟩) (by assumption) ?_
  case hy20_11_16 => (intro w hSw; (try dsimp only at hSw); go_simp; try with_reducible rfl)
  try simp only [Act.put, List.setIfInBounds_toArray, List.set_cons_zero, List.set_cons_succ]
  refine wpAnyH_take (i := 21) (oi := { dst := some 81, op := Op.binOp BinOp.eql 44 (Operand.tmp 80) (Operand.const (Value.int IntKind.i64 0)) 44, type := 4, pos := "law.go:267", after := #[{ on := 20, ground := Ground.data }, { on := 19, ground := Ground.guard }], guard := some (19, true) }) (v := ?_) rfl (by kernel_rfl) (by kernel_rfl) (by kernel_rfl) (fun _ _ _ h => h) (Or.inl ⟨by rfl, ?hy21_11_16⟩) (by assumption) ?_
  case hy21_11_16 => (intro w hSw; (try dsimp only at hSw); go_simp; try with_reducible rfl)
  try simp only [Act.put, List.setIfInBounds_toArray, List.set_cons_zero, List.set_cons_succ]
  refine wpAnyH_take (i := 22) (oi := { dst := some 82, op := Op.pick (Operand.tmp 79) (Operand.tmp 81) (Operand.const (Value.bool false)), type := 4, pos := "law.go:267", after := #[{ on := 19, ground := Ground.data }, { on := 21, ground := Ground.data }], guard := none }) (v := ?_) rfl (by kernel_rfl) (by kernel_rfl) (by kernel_rfl) (fun _ _ _ h => h) (Or.inl ⟨by rfl, ?hy22_11_16⟩) (by assumption) ?_
  case hy22_11_16 => (intro w hSw; (try dsimp only at hSw); go_simp; try with_reducible rfl)
  try simp only [Act.put, List.setIfInBounds_toArray, List.set_cons_zero, List.set_cons_succ]
  refine wpAnyH_take (i := 23) (oi := { dst := some 83, op := Op.move (Operand.tmp 82), type := 4, pos := "law.go:267", after := #[{ on := 22, ground := Ground.data }, { on := 19, ground := Ground.chain }], guard := none }) (v := ?_) rfl (by kernel_rfl) (by kernel_rfl) (by kernel_rfl) (fun _ _ _ h => h) (Or.inl ⟨by rfl, ?hy23_11_16⟩) (by assumption) ?_
  case hy23_11_16 => (intro w hSw; (try dsimp only at hSw); go_simp; try with_reducible rfl)
  try simp only [Act.put, List.setIfInBounds_toArray, List.set_cons_zero, List.set_cons_succ]
  refine wpAnyH_take (i := 24) (oi := { dst := some 84, op := Op.move (Operand.tmp 12), type := 25, pos := "law.go:267", after := #[{ on := 23, ground := Ground.guard }], guard := some (23, true) }) (v := ?_) rfl (by kernel_rfl) (by kernel_rfl) (by kernel_rfl) (fun _ _ _ h => h) (Or.inl ⟨by rfl, ?hy24_11_16⟩) (by assumption) ?_
  case hy24_11_16 => (intro w hSw; (try dsimp only at hSw); go_simp; try with_reducible rfl)
  try simp only [Act.put, List.setIfInBounds_toArray, List.set_cons_zero, List.set_cons_succ]
  refine wpAnyH_take (i := 26) (oi := { dst := some 86, op := Op.move (Operand.tmp 13), type := 3, pos := "law.go:267", after := #[{ on := 23, ground := Ground.guard }], guard := some (23, true) }) (v := ?_) rfl (by kernel_rfl) (by kernel_rfl) (by kernel_rfl) (fun _ _ _ h => h) (Or.inl ⟨by rfl, ?hy26_11_16⟩) (by assumption) ?_
  case hy26_11_16 => (intro w hSw; (try dsimp only at hSw); go_simp; try with_reducible rfl)
  try simp only [Act.put, List.setIfInBounds_toArray, List.set_cons_zero, List.set_cons_succ]
  refine wpAnyH_ready (rs := [25]) (by kernel_rfl) (by simp) ?_
  refine AllReadyH.cons (o := { dst := some 85, op := Op.call { callee := Callee.value (Operand.func 23), args := #[Operand.tmp 84], argTypes := #[25] }, type := 3, pos := "law.go:267", after := #[{ on := 24, ground := Ground.data }, { on := 23, ground := Ground.chain }, { on := 23, ground := Ground.guard }], guard := some (23, true) }) rfl (fun K hK => ?_) AllReadyH.nil
  go_simp
  refine (size_any _ b2 dk _ d10).mono ?_
  rintro e w' ⟨rfl, rfl⟩
  refine hK.out _ _ hx.cells (fun hHeld => ?_)
  clear hK K
  try simp only [Act.put, List.setIfInBounds_toArray, List.set_cons_zero, List.set_cons_succ]
  refine wpAnyH_take (i := 27) (oi := { dst := some 87, op := Op.binOp BinOp.eql 3 (Operand.tmp 85) (Operand.tmp 86) 3, type := 4, pos := "law.go:267", after := #[{ on := 25, ground := Ground.data }, { on := 26, ground := Ground.data }, { on := 23, ground := Ground.guard }], guard := some (23, true) }) (v := ?_) rfl (by kernel_rfl) (by kernel_rfl) (by kernel_rfl) (fun _ _ _ h => h) (Or.inl ⟨by rfl, ?hy27_11_16_25⟩) (by assumption) ?_
  case hy27_11_16_25 => (intro w hSw; (try dsimp only at hSw); go_simp; try with_reducible rfl)
  try simp only [Act.put, List.setIfInBounds_toArray, List.set_cons_zero, List.set_cons_succ]
  refine wpAnyH_take (i := 28) (oi := { dst := some 88, op := Op.pick (Operand.tmp 83) (Operand.tmp 87) (Operand.const (Value.bool false)), type := 4, pos := "law.go:267", after := #[{ on := 23, ground := Ground.data }, { on := 27, ground := Ground.data }], guard := none }) (v := ?_) rfl (by kernel_rfl) (by kernel_rfl) (by kernel_rfl) (fun _ _ _ h => h) (Or.inl ⟨by rfl, ?hy28_11_16_25⟩) (by assumption) ?_
  case hy28_11_16_25 => (intro w hSw; (try dsimp only at hSw); go_simp; try with_reducible rfl)
  try simp only [Act.put, List.setIfInBounds_toArray, List.set_cons_zero, List.set_cons_succ]
  refine wpAnyH_take (i := 29) (oi := { dst := some 89, op := Op.move (Operand.tmp 88), type := 4, pos := "law.go:267", after := #[{ on := 28, ground := Ground.data }, { on := 25, ground := Ground.chain }], guard := none }) (v := ?_) rfl (by kernel_rfl) (by kernel_rfl) (by kernel_rfl) (fun _ _ _ h => h) (Or.inl ⟨by rfl, ?hy29_11_16_25⟩) (by assumption) ?_
  case hy29_11_16_25 => (intro w hSw; (try dsimp only at hSw); go_simp; try with_reducible rfl)
  try simp only [Act.put, List.setIfInBounds_toArray, List.set_cons_zero, List.set_cons_succ]
  refine wpAnyH_take (i := 30) (oi := { dst := some 90, op := Op.move (Operand.tmp 12), type := 25, pos := "law.go:267", after := #[{ on := 29, ground := Ground.guard }], guard := some (29, true) }) (v := ?_) rfl (by kernel_rfl) (by kernel_rfl) (by kernel_rfl) (fun _ _ _ h => h) (Or.inl ⟨by rfl, ?hy30_11_16_25⟩) (by assumption) ?_
  case hy30_11_16_25 => (intro w hSw; (try dsimp only at hSw); go_simp; try with_reducible rfl)
  try simp only [Act.put, List.setIfInBounds_toArray, List.set_cons_zero, List.set_cons_succ]
  refine wpAnyH_take (i := 31) (oi := { dst := some 91, op := Op.move (Operand.tmp 13), type := 3, pos := "law.go:267", after := #[{ on := 29, ground := Ground.guard }], guard := some (29, true) }) (v := ?_) rfl (by kernel_rfl) (by kernel_rfl) (by kernel_rfl) (fun _ _ _ h => h) (Or.inl ⟨by rfl, ?hy31_11_16_25⟩) (by assumption) ?_
  case hy31_11_16_25 => (intro w hSw; (try dsimp only at hSw); go_simp; try with_reducible rfl)
  try simp only [Act.put, List.setIfInBounds_toArray, List.set_cons_zero, List.set_cons_succ]
  refine wpAnyH_take (i := 32) (oi := { dst := some 92, op := Op.binOp BinOp.add 3 (Operand.tmp 91) (Operand.const (Value.int IntKind.i64 1)) 3, type := 3, pos := "law.go:267", after := #[{ on := 31, ground := Ground.data }, { on := 29, ground := Ground.guard }], guard := some (29, true) }) (v := ?_) rfl (by kernel_rfl) (by kernel_rfl) (by kernel_rfl) (fun _ _ _ h => h) (Or.inl ⟨by rfl, ?hy32_11_16_25⟩) (by assumption) ?_
  case hy32_11_16_25 => (intro w hSw; (try dsimp only at hSw); go_simp; try with_reducible rfl)
  try simp only [Act.put, List.setIfInBounds_toArray, List.set_cons_zero, List.set_cons_succ]
  refine wpAnyH_take (i := 34) (oi := { dst := some 94, op := Op.move (Operand.tmp 13), type := 3, pos := "law.go:267", after := #[{ on := 29, ground := Ground.guard }], guard := some (29, true) }) (v := ?_) rfl (by kernel_rfl) (by kernel_rfl) (by kernel_rfl) (fun _ _ _ h => h) (Or.inl ⟨by rfl, ?hy34_11_16_25⟩) (by assumption) ?_
  case hy34_11_16_25 => (intro w hSw; (try dsimp only at hSw); go_simp; try with_reducible rfl)
  try simp only [Act.put, List.setIfInBounds_toArray, List.set_cons_zero, List.set_cons_succ]
  refine wpAnyH_ready (rs := [33, 35]) (by kernel_rfl) (by simp) ?_
  refine AllReadyH.cons (o := { dst := some 93, op := Op.call { callee := Callee.value (Operand.func 35), args := #[Operand.tmp 90, Operand.const (Value.int IntKind.i64 0), Operand.tmp 92], argTypes := #[25, 3, 3] }, type := 9, pos := "law.go:267", after := #[{ on := 30, ground := Ground.data }, { on := 32, ground := Ground.data }, { on := 29, ground := Ground.chain }, { on := 29, ground := Ground.guard }], guard := some (29, true) }) rfl (fun K hK => ?_) ?_
  · go_simp
    refine (W3.out _ _ d10).mono ?_
    rintro e w11 ⟨rfl, o11⟩
    have o12 : Only Nob w9.drew (zeroWorld w11 k) := o11.trans (zeroWorld_only w11 k) (fun _ _ h => h)
    have hx11 := hx.other o11 (fun h => h)
    have hx12 := hx.other o12 (fun h => h)
    have d12 := d10.other o12 (fun _ _ h => h)
    have z12 : w7.heap.size ≤ (zeroWorld w11 k).heap.size := by have := o12.size; omega
    refine hK.out _ _ hx11.cells (fun hHeld => ?_)
    clear hK K
    try simp only [Act.put, List.setIfInBounds_toArray, List.set_cons_zero, List.set_cons_succ]
    refine wpAnyH_ready (rs := [35]) (by kernel_rfl) (by simp) ?_
    refine AllReadyH.cons (o := { dst := some 95, op := Op.makeSlice 56 (Operand.tmp 94) (Operand.tmp 94), type := 56, pos := "law.go:267", after := #[{ on := 34, ground := Ground.data }, { on := 34, ground := Ground.data }, { on := 29, ground := Ground.guard }], guard := some (29, true) }) rfl (fun K hK => ?_) AllReadyH.nil
    go_simp
    refine hK.out _ _ hx12.cells (fun hHeld => ?_)
    clear hK K
    try simp only [Act.put, List.setIfInBounds_toArray, List.set_cons_zero, List.set_cons_succ]
    refine wpAnyH_weaken0 (T := fun w' => (w'.cell? ⟨w2.heap.size, 0, none⟩ = some (.pointer (some ⟨db, 0, none⟩)) ∧ w'.cell? ⟨w2.heap.size, 1, none⟩ = some (.pointer (some ⟨rb4, 0, none⟩))) ∧ (convert 56 9 (.slice (some ⟨w11.heap.size, 0, none⟩) k k)).run Try.prog w' = .ok (.string ⟨(List.replicate k (0 : UInt8)).toArray⟩) w') (fun _ h => h.1) _ _ _ _ ?_
    have oz : Only fp9 (zeroWorld w11 k) (zeroWorld w11 k) := Only.refl _ _
    have hBz : w11.heap.size < (zeroWorld w11 k).heap.size := zeroWorld_lt _ _
    have hB0 : w9.heap.size ≤ w11.heap.size := o11.size
    have hHeld2 := And.intro hHeld (zstr_later w11 _ k hk6 (Only.refl Nob (zeroWorld w11 k)))
    refine wpAnyH_take (i := 36) (oi := { dst := some 96, op := Op.convert 56 9 (Operand.tmp 95), type := 9, pos := "law.go:267", after := #[{ on := 35, ground := Ground.data }, { on := 29, ground := Ground.guard }], guard := some (29, true) }) (v := ?_) rfl (by kernel_rfl) (by kernel_rfl) (by kernel_rfl) (fun _ _ _ h => h) (Or.inl ⟨by rfl, ?hy36_11_16_25_33_35⟩) (by assumption) ?_
    case hy36_11_16_25_33_35 => (intro w hSw; (try dsimp only at hSw); go_simp; try with_reducible rfl)
    try simp only [Act.put, List.setIfInBounds_toArray, List.set_cons_zero, List.set_cons_succ]
    refine wpAnyH_take (i := 37) (oi := { dst := some 97, op := Op.binOp BinOp.eql 9 (Operand.tmp 93) (Operand.tmp 96) 9, type := 4, pos := "law.go:267", after := #[{ on := 33, ground := Ground.data }, { on := 36, ground := Ground.data }, { on := 29, ground := Ground.guard }], guard := some (29, true) }) (v := ?_) rfl (by kernel_rfl) (by kernel_rfl) (by kernel_rfl) (fun _ _ _ h => h) (Or.inl ⟨by rfl, ?hy37_11_16_25_33_35⟩) (by assumption) ?_
    case hy37_11_16_25_33_35 => (intro w hSw; (try dsimp only at hSw); go_simp; try with_reducible rfl)
    try simp only [Act.put, List.setIfInBounds_toArray, List.set_cons_zero, List.set_cons_succ]
    refine wpAnyH_take (i := 38) (oi := { dst := some 98, op := Op.pick (Operand.tmp 89) (Operand.tmp 97) (Operand.const (Value.bool false)), type := 4, pos := "law.go:267", after := #[{ on := 29, ground := Ground.data }, { on := 37, ground := Ground.data }], guard := none }) (v := ?_) rfl (by kernel_rfl) (by kernel_rfl) (by kernel_rfl) (fun _ _ _ h => h) (Or.inl ⟨by rfl, ?hy38_11_16_25_33_35⟩) (by assumption) ?_
    case hy38_11_16_25_33_35 => (intro w hSw; (try dsimp only at hSw); go_simp; try with_reducible rfl)
    try simp only [Act.put, List.setIfInBounds_toArray, List.set_cons_zero, List.set_cons_succ]
    refine wpAnyH_take (i := 39) (oi := { dst := some 99, op := Op.move (Operand.tmp 98), type := 4, pos := "law.go:267", after := #[{ on := 38, ground := Ground.data }, { on := 33, ground := Ground.chain }], guard := none }) (v := ?_) rfl (by kernel_rfl) (by kernel_rfl) (by kernel_rfl) (fun _ _ _ h => h) (Or.inl ⟨by rfl, ?hy39_11_16_25_33_35⟩) (by assumption) ?_
    case hy39_11_16_25_33_35 => (intro w hSw; (try dsimp only at hSw); go_simp; try with_reducible rfl)
    try simp only [Act.put, List.setIfInBounds_toArray, List.set_cons_zero, List.set_cons_succ]
    refine wpAnyH_take (i := 40) (oi := { dst := some 100, op := Op.move (Operand.tmp 12), type := 25, pos := "law.go:267", after := #[{ on := 39, ground := Ground.guard }], guard := some (39, true) }) (v := ?_) rfl (by kernel_rfl) (by kernel_rfl) (by kernel_rfl) (fun _ _ _ h => h) (Or.inl ⟨by rfl, ?hy40_11_16_25_33_35⟩) (by assumption) ?_
    case hy40_11_16_25_33_35 => (intro w hSw; (try dsimp only at hSw); go_simp; try with_reducible rfl)
    try simp only [Act.put, List.setIfInBounds_toArray, List.set_cons_zero, List.set_cons_succ]
    refine wpAnyH_take (i := 41) (oi := { dst := some 101, op := Op.move (Operand.tmp 13), type := 3, pos := "law.go:267", after := #[{ on := 39, ground := Ground.guard }], guard := some (39, true) }) (v := ?_) rfl (by kernel_rfl) (by kernel_rfl) (by kernel_rfl) (fun _ _ _ h => h) (Or.inl ⟨by rfl, ?hy41_11_16_25_33_35⟩) (by assumption) ?_
    case hy41_11_16_25_33_35 => (intro w hSw; (try dsimp only at hSw); go_simp; try with_reducible rfl)
    try simp only [Act.put, List.setIfInBounds_toArray, List.set_cons_zero, List.set_cons_succ]
    refine wpAnyH_take (i := 42) (oi := { dst := some 102, op := Op.binOp BinOp.sub 3 (Operand.const (Value.int IntKind.i64 (-1))) (Operand.tmp 101) 3, type := 3, pos := "law.go:267", after := #[{ on := 41, ground := Ground.data }, { on := 39, ground := Ground.guard }], guard := some (39, true) }) (v := ?_) rfl (by kernel_rfl) (by kernel_rfl) (by kernel_rfl) (fun _ _ _ h => h) (Or.inl ⟨by rfl, ?hy42_11_16_25_33_35⟩) (by assumption) ?_
    case hy42_11_16_25_33_35 => (intro w hSw; (try dsimp only at hSw); go_simp; try with_reducible rfl)
    try simp only [Act.put, List.setIfInBounds_toArray, List.set_cons_zero, List.set_cons_succ]
    refine wpAnyH_ready (rs := [43]) (by kernel_rfl) (by simp) ?_
    refine AllReadyH.cons (o := { dst := some 103, op := Op.call { callee := Callee.value (Operand.func 33), args := #[Operand.tmp 100, Operand.tmp 102, Operand.const (Value.string { data := #[] })], argTypes := #[25, 3, 9] }, type := 44, pos := "law.go:267", after := #[{ on := 40, ground := Ground.data }, { on := 42, ground := Ground.data }, { on := 39, ground := Ground.chain }, { on := 39, ground := Ground.guard }], guard := some (39, true) }) rfl (fun K hK => ?_) AllReadyH.nil
    go_simp
    refine (W1.out _ _ d12).mono ?_
    rintro e w13 ⟨rfl, d13, o13⟩
    have hx13 := hx12.other o13 HX.out
    have oz13 := oz.trans o13 (fun _ _ h => h)
    have cv13 := zstr_on w11 _ k hk6 oz13 (H9.out _ hB0)
    refine hK.out _ _ ⟨hx13.cells, cv13⟩ (fun hHeld => ?_)
    clear hK K
    try simp only [Act.put, List.setIfInBounds_toArray, List.set_cons_zero, List.set_cons_succ]
    refine wpAnyH_take (i := 44) (oi := { dst := some 104, op := Op.binOp BinOp.eql 44 (Operand.tmp 103) (Operand.const (Value.int IntKind.i64 1)) 44, type := 4, pos := "law.go:267", after := #[{ on := 43, ground := Ground.data }, { on := 39, ground := Ground.guard }], guard := some (39, true) }) (v := ?_) rfl (by kernel_rfl) (by kernel_rfl) (by kernel_rfl) (fun _ _ _ h => h) (Or.inl ⟨by rfl, ?hy44_11_16_25_33_35_43⟩) (by assumption) ?_
    case hy44_11_16_25_33_35_43 => (intro w hSw; (try dsimp only at hSw); go_simp; try with_reducible rfl)
    try simp only [Act.put, List.setIfInBounds_toArray, List.set_cons_zero, List.set_cons_succ]
    refine wpAnyH_take (i := 45) (oi := { dst := some 105, op := Op.pick (Operand.tmp 99) (Operand.tmp 104) (Operand.const (Value.bool false)), type := 4, pos := "law.go:267", after := #[{ on := 39, ground := Ground.data }, { on := 44, ground := Ground.data }], guard := none }) (v := ?_) rfl (by kernel_rfl) (by kernel_rfl) (by kernel_rfl) (fun _ _ _ h => h) (Or.inl ⟨by rfl, ?hy45_11_16_25_33_35_43⟩) (by assumption) ?_
    case hy45_11_16_25_33_35_43 => (intro w hSw; (try dsimp only at hSw); go_simp; try with_reducible rfl)
    try simp only [Act.put, List.setIfInBounds_toArray, List.set_cons_zero, List.set_cons_succ]
    refine wpAnyH_take (i := 46) (oi := { dst := some 106, op := Op.move (Operand.tmp 105), type := 4, pos := "law.go:267", after := #[{ on := 45, ground := Ground.data }, { on := 43, ground := Ground.chain }], guard := none }) (v := ?_) rfl (by kernel_rfl) (by kernel_rfl) (by kernel_rfl) (fun _ _ _ h => h) (Or.inl ⟨by rfl, ?hy46_11_16_25_33_35_43⟩) (by assumption) ?_
    case hy46_11_16_25_33_35_43 => (intro w hSw; (try dsimp only at hSw); go_simp; try with_reducible rfl)
    try simp only [Act.put, List.setIfInBounds_toArray, List.set_cons_zero, List.set_cons_succ]
    refine wpAnyH_take (i := 47) (oi := { dst := some 107, op := Op.move (Operand.tmp 12), type := 25, pos := "law.go:267", after := #[{ on := 46, ground := Ground.guard }], guard := some (46, true) }) (v := ?_) rfl (by kernel_rfl) (by kernel_rfl) (by kernel_rfl) (fun _ _ _ h => h) (Or.inl ⟨by rfl, ?hy47_11_16_25_33_35_43⟩) (by assumption) ?_
    case hy47_11_16_25_33_35_43 => (intro w hSw; (try dsimp only at hSw); go_simp; try with_reducible rfl)
    try simp only [Act.put, List.setIfInBounds_toArray, List.set_cons_zero, List.set_cons_succ]
    refine wpAnyH_take (i := 48) (oi := { dst := some 108, op := Op.move (Operand.tmp 13), type := 3, pos := "law.go:267", after := #[{ on := 46, ground := Ground.guard }], guard := some (46, true) }) (v := ?_) rfl (by kernel_rfl) (by kernel_rfl) (by kernel_rfl) (fun _ _ _ h => h) (Or.inl ⟨by rfl, ?hy48_11_16_25_33_35_43⟩) (by assumption) ?_
    case hy48_11_16_25_33_35_43 => (intro w hSw; (try dsimp only at hSw); go_simp; try with_reducible rfl)
    try simp only [Act.put, List.setIfInBounds_toArray, List.set_cons_zero, List.set_cons_succ]
    refine wpAnyH_take (i := 49) (oi := { dst := some 109, op := Op.binOp BinOp.sub 3 (Operand.const (Value.int IntKind.i64 9223372036854775807)) (Operand.tmp 108) 3, type := 3, pos := "law.go:267", after := #[{ on := 48, ground := Ground.data }, { on := 46, ground := Ground.guard }], guard := some (46, true) }) (v := ?_) rfl (by kernel_rfl) (by kernel_rfl) (by kernel_rfl) (fun _ _ _ h => h) (Or.inl ⟨by rfl, ?hy49_11_16_25_33_35_43⟩) (by assumption) ?_
    case hy49_11_16_25_33_35_43 => (intro w hSw; (try dsimp only at hSw); go_simp; try with_reducible rfl)
    try simp only [Act.put, List.setIfInBounds_toArray, List.set_cons_zero, List.set_cons_succ]
    refine wpAnyH_ready (rs := [50]) (by kernel_rfl) (by simp) ?_
    refine AllReadyH.cons (o := { dst := some 110, op := Op.call { callee := Callee.value (Operand.func 33), args := #[Operand.tmp 107, Operand.tmp 109, Operand.const (Value.string { data := #[97, 98] })], argTypes := #[25, 3, 9] }, type := 44, pos := "law.go:267", after := #[{ on := 47, ground := Ground.data }, { on := 49, ground := Ground.data }, { on := 46, ground := Ground.chain }, { on := 46, ground := Ground.guard }], guard := some (46, true) }) rfl (fun K hK => ?_) AllReadyH.nil
    go_simp
    refine (W2.out _ _ d13).mono ?_
    rintro e w14 ⟨rfl, d14, o14⟩
    have hx14 := hx13.other o14 (HX2.out _ _ z12)
    have oz14 := (oz13.mono (fun _ _ h => Or.inl h)).trans o14 (fun _ _ h => h)
    have cv14 := zstr_on w11 _ k hk6 oz14 (fun h => by rcases h with h | ⟨h, _⟩; exact H9.out _ hB0 h; exact absurd hBz (Nat.not_lt.2 h))
    refine hK.out _ _ ⟨hx14.cells, cv14⟩ (fun hHeld => ?_)
    clear hK K
    try simp only [Act.put, List.setIfInBounds_toArray, List.set_cons_zero, List.set_cons_succ]
    refine wpAnyH_take (i := 51) (oi := { dst := some 111, op := Op.binOp BinOp.eql 44 (Operand.tmp 110) (Operand.const (Value.int IntKind.i64 1)) 44, type := 4, pos := "law.go:267", after := #[{ on := 50, ground := Ground.data }, { on := 46, ground := Ground.guard }], guard := some (46, true) }) (v := ?_) rfl (by kernel_rfl) (by kernel_rfl) (by kernel_rfl) (fun _ _ _ h => h) (Or.inl ⟨by rfl, ?hy51_11_16_25_33_35_43_50⟩) (by assumption) ?_
    case hy51_11_16_25_33_35_43_50 => (intro w hSw; (try dsimp only at hSw); go_simp; try with_reducible rfl)
    try simp only [Act.put, List.setIfInBounds_toArray, List.set_cons_zero, List.set_cons_succ]
    refine wpAnyH_take (i := 52) (oi := { dst := some 112, op := Op.pick (Operand.tmp 106) (Operand.tmp 111) (Operand.const (Value.bool false)), type := 4, pos := "law.go:267", after := #[{ on := 46, ground := Ground.data }, { on := 51, ground := Ground.data }], guard := none }) (v := ?_) rfl (by kernel_rfl) (by kernel_rfl) (by kernel_rfl) (fun _ _ _ h => h) (Or.inl ⟨by rfl, ?hy52_11_16_25_33_35_43_50⟩) (by assumption) ?_
    case hy52_11_16_25_33_35_43_50 => (intro w hSw; (try dsimp only at hSw); go_simp; try with_reducible rfl)
    try simp only [Act.put, List.setIfInBounds_toArray, List.set_cons_zero, List.set_cons_succ]
    refine wpAnyH_take (i := 53) (oi := { dst := some 6, op := Op.assign (Operand.tmp 112), type := 4, pos := "law.go:267", after := #[{ on := 52, ground := Ground.data }, { on := 50, ground := Ground.chain }, { on := 0, ground := Ground.phase }, { on := 1, ground := Ground.phase }, { on := 2, ground := Ground.phase }, { on := 3, ground := Ground.phase }, { on := 4, ground := Ground.phase }, { on := 5, ground := Ground.phase }, { on := 6, ground := Ground.phase }, { on := 7, ground := Ground.phase }, { on := 8, ground := Ground.phase }, { on := 9, ground := Ground.phase }, { on := 10, ground := Ground.phase }, { on := 11, ground := Ground.phase }, { on := 12, ground := Ground.phase }, { on := 13, ground := Ground.phase }, { on := 14, ground := Ground.phase }, { on := 15, ground := Ground.phase }, { on := 16, ground := Ground.phase }, { on := 17, ground := Ground.phase }, { on := 18, ground := Ground.phase }, { on := 19, ground := Ground.phase }, { on := 20, ground := Ground.phase }, { on := 21, ground := Ground.phase }, { on := 22, ground := Ground.phase }, { on := 23, ground := Ground.phase }, { on := 24, ground := Ground.phase }, { on := 25, ground := Ground.phase }, { on := 26, ground := Ground.phase }, { on := 27, ground := Ground.phase }, { on := 28, ground := Ground.phase }, { on := 29, ground := Ground.phase }, { on := 30, ground := Ground.phase }, { on := 31, ground := Ground.phase }, { on := 32, ground := Ground.phase }, { on := 33, ground := Ground.phase }, { on := 34, ground := Ground.phase }, { on := 35, ground := Ground.phase }, { on := 36, ground := Ground.phase }, { on := 37, ground := Ground.phase }, { on := 38, ground := Ground.phase }, { on := 39, ground := Ground.phase }, { on := 40, ground := Ground.phase }, { on := 41, ground := Ground.phase }, { on := 42, ground := Ground.phase }, { on := 43, ground := Ground.phase }, { on := 44, ground := Ground.phase }, { on := 45, ground := Ground.phase }, { on := 46, ground := Ground.phase }, { on := 47, ground := Ground.phase }, { on := 48, ground := Ground.phase }, { on := 49, ground := Ground.phase }, { on := 50, ground := Ground.phase }, { on := 51, ground := Ground.phase }, { on := 52, ground := Ground.phase }], guard := none }) (v := ?_) rfl (by kernel_rfl) (by kernel_rfl) (by kernel_rfl) (fun _ _ _ h => h) (Or.inl ⟨by rfl, ?hy53_11_16_25_33_35_43_50⟩) (by assumption) ?_
    case hy53_11_16_25_33_35_43_50 => (intro w hSw; (try dsimp only at hSw); go_simp; try with_reducible rfl)
    try simp only [Act.put, List.setIfInBounds_toArray, List.set_cons_zero, List.set_cons_succ]
    refine wpAnyH_done (by kernel_rfl) ?_ _
    have qa := hS9.only (q9.trans (od9.trans o12 (fun _ _ h => h)) (fun _ _ h => h)) o13
    have qb := (hS9.grow z12).only qa o14
    go_wp2
    go_ret
    exact ⟨by simp, o0.trans (q7.trans qb (fun _ _ h => h)) (fun _ _ h => h)⟩
  refine AllReadyH.cons (o := { dst := some 95, op := Op.makeSlice 56 (Operand.tmp 94) (Operand.tmp 94), type := 56, pos := "law.go:267", after := #[{ on := 34, ground := Ground.data }, { on := 34, ground := Ground.data }, { on := 29, ground := Ground.guard }], guard := some (29, true) }) rfl (fun K hK => ?_) AllReadyH.nil
  · go_simp
    refine hK.out _ _ hxz.cells (fun hHeld => ?_)
    clear hK K
    try simp only [Act.put, List.setIfInBounds_toArray, List.set_cons_zero, List.set_cons_succ]
    refine wpAnyH_weaken0 (T := fun w' => (w'.cell? ⟨w2.heap.size, 0, none⟩ = some (.pointer (some ⟨db, 0, none⟩)) ∧ w'.cell? ⟨w2.heap.size, 1, none⟩ = some (.pointer (some ⟨rb4, 0, none⟩))) ∧ (convert 56 9 (.slice (some ⟨w9.heap.size, 0, none⟩) k k)).run Try.prog w' = .ok (.string ⟨(List.replicate k (0 : UInt8)).toArray⟩) w') (fun _ h => h.1) _ _ _ _ ?_
    have hB0 : w9.heap.size ≤ w9.drew.heap.size := Nat.le_refl _
    have hHeld2 := And.intro hHeld (zstr_later w9.drew _ k hk6 (Only.refl Nob (zeroWorld w9.drew k)))
    refine wpAnyH_take (i := 36) (oi := { dst := some 96, op := Op.convert 56 9 (Operand.tmp 95), type := 9, pos := "law.go:267", after := #[{ on := 35, ground := Ground.data }, { on := 29, ground := Ground.guard }], guard := some (29, true) }) (v := ?_) rfl (by kernel_rfl) (by kernel_rfl) (by kernel_rfl) (fun _ _ _ h => h) (Or.inl ⟨by rfl, ?hy36_11_16_25_35⟩) (by assumption) ?_
    case hy36_11_16_25_35 => (intro w hSw; (try dsimp only at hSw); go_simp; try with_reducible rfl)
    try simp only [Act.put, List.setIfInBounds_toArray, List.set_cons_zero, List.set_cons_succ]
    refine wpAnyH_ready (rs := [33]) (by kernel_rfl) (by simp) ?_
    refine AllReadyH.cons (o := { dst := some 93, op := Op.call { callee := Callee.value (Operand.func 35), args := #[Operand.tmp 90, Operand.const (Value.int IntKind.i64 0), Operand.tmp 92], argTypes := #[25, 3, 3] }, type := 9, pos := "law.go:267", after := #[{ on := 30, ground := Ground.data }, { on := 32, ground := Ground.data }, { on := 29, ground := Ground.chain }, { on := 29, ground := Ground.guard }], guard := some (29, true) }) rfl (fun K hK => ?_) AllReadyH.nil
    go_simp
    refine (W3.out _ _ d10z).mono ?_
    rintro e w11 ⟨rfl, o11⟩
    have o12 : Only Nob w9.drew w11 := zo.trans o11 (fun _ _ h => h)
    have hx12 := hx.other o12 (fun h => h)
    have d12 := d10.other o12 (fun _ _ h => h)
    have z12 : w7.heap.size ≤ w11.heap.size := by have := o12.size; omega
    have cv0 := zstr_later w9.drew w11 k hk6 o11
    have oz : Only fp9 (zeroWorld w9.drew k) w11 := o11.mono (fun _ _ h => h.elim)
    have hBz : w9.drew.heap.size < w11.heap.size := Nat.lt_of_lt_of_le (zeroWorld_lt _ _) o11.size
    refine hK.out _ _ ⟨hx12.cells, cv0⟩ (fun hHeld => ?_)
    clear hK K
    try simp only [Act.put, List.setIfInBounds_toArray, List.set_cons_zero, List.set_cons_succ]
    refine wpAnyH_take (i := 37) (oi := { dst := some 97, op := Op.binOp BinOp.eql 9 (Operand.tmp 93) (Operand.tmp 96) 9, type := 4, pos := "law.go:267", after := #[{ on := 33, ground := Ground.data }, { on := 36, ground := Ground.data }, { on := 29, ground := Ground.guard }], guard := some (29, true) }) (v := ?_) rfl (by kernel_rfl) (by kernel_rfl) (by kernel_rfl) (fun _ _ _ h => h) (Or.inl ⟨by rfl, ?hy37_11_16_25_35_33⟩) (by assumption) ?_
    case hy37_11_16_25_35_33 => (intro w hSw; (try dsimp only at hSw); go_simp; try with_reducible rfl)
    try simp only [Act.put, List.setIfInBounds_toArray, List.set_cons_zero, List.set_cons_succ]
    refine wpAnyH_take (i := 38) (oi := { dst := some 98, op := Op.pick (Operand.tmp 89) (Operand.tmp 97) (Operand.const (Value.bool false)), type := 4, pos := "law.go:267", after := #[{ on := 29, ground := Ground.data }, { on := 37, ground := Ground.data }], guard := none }) (v := ?_) rfl (by kernel_rfl) (by kernel_rfl) (by kernel_rfl) (fun _ _ _ h => h) (Or.inl ⟨by rfl, ?hy38_11_16_25_35_33⟩) (by assumption) ?_
    case hy38_11_16_25_35_33 => (intro w hSw; (try dsimp only at hSw); go_simp; try with_reducible rfl)
    try simp only [Act.put, List.setIfInBounds_toArray, List.set_cons_zero, List.set_cons_succ]
    refine wpAnyH_take (i := 39) (oi := { dst := some 99, op := Op.move (Operand.tmp 98), type := 4, pos := "law.go:267", after := #[{ on := 38, ground := Ground.data }, { on := 33, ground := Ground.chain }], guard := none }) (v := ?_) rfl (by kernel_rfl) (by kernel_rfl) (by kernel_rfl) (fun _ _ _ h => h) (Or.inl ⟨by rfl, ?hy39_11_16_25_35_33⟩) (by assumption) ?_
    case hy39_11_16_25_35_33 => (intro w hSw; (try dsimp only at hSw); go_simp; try with_reducible rfl)
    try simp only [Act.put, List.setIfInBounds_toArray, List.set_cons_zero, List.set_cons_succ]
    refine wpAnyH_take (i := 40) (oi := { dst := some 100, op := Op.move (Operand.tmp 12), type := 25, pos := "law.go:267", after := #[{ on := 39, ground := Ground.guard }], guard := some (39, true) }) (v := ?_) rfl (by kernel_rfl) (by kernel_rfl) (by kernel_rfl) (fun _ _ _ h => h) (Or.inl ⟨by rfl, ?hy40_11_16_25_35_33⟩) (by assumption) ?_
    case hy40_11_16_25_35_33 => (intro w hSw; (try dsimp only at hSw); go_simp; try with_reducible rfl)
    try simp only [Act.put, List.setIfInBounds_toArray, List.set_cons_zero, List.set_cons_succ]
    refine wpAnyH_take (i := 41) (oi := { dst := some 101, op := Op.move (Operand.tmp 13), type := 3, pos := "law.go:267", after := #[{ on := 39, ground := Ground.guard }], guard := some (39, true) }) (v := ?_) rfl (by kernel_rfl) (by kernel_rfl) (by kernel_rfl) (fun _ _ _ h => h) (Or.inl ⟨by rfl, ?hy41_11_16_25_35_33⟩) (by assumption) ?_
    case hy41_11_16_25_35_33 => (intro w hSw; (try dsimp only at hSw); go_simp; try with_reducible rfl)
    try simp only [Act.put, List.setIfInBounds_toArray, List.set_cons_zero, List.set_cons_succ]
    refine wpAnyH_take (i := 42) (oi := { dst := some 102, op := Op.binOp BinOp.sub 3 (Operand.const (Value.int IntKind.i64 (-1))) (Operand.tmp 101) 3, type := 3, pos := "law.go:267", after := #[{ on := 41, ground := Ground.data }, { on := 39, ground := Ground.guard }], guard := some (39, true) }) (v := ?_) rfl (by kernel_rfl) (by kernel_rfl) (by kernel_rfl) (fun _ _ _ h => h) (Or.inl ⟨by rfl, ?hy42_11_16_25_35_33⟩) (by assumption) ?_
    case hy42_11_16_25_35_33 => (intro w hSw; (try dsimp only at hSw); go_simp; try with_reducible rfl)
    try simp only [Act.put, List.setIfInBounds_toArray, List.set_cons_zero, List.set_cons_succ]
    refine wpAnyH_ready (rs := [43]) (by kernel_rfl) (by simp) ?_
    refine AllReadyH.cons (o := { dst := some 103, op := Op.call { callee := Callee.value (Operand.func 33), args := #[Operand.tmp 100, Operand.tmp 102, Operand.const (Value.string { data := #[] })], argTypes := #[25, 3, 9] }, type := 44, pos := "law.go:267", after := #[{ on := 40, ground := Ground.data }, { on := 42, ground := Ground.data }, { on := 39, ground := Ground.chain }, { on := 39, ground := Ground.guard }], guard := some (39, true) }) rfl (fun K hK => ?_) AllReadyH.nil
    go_simp
    refine (W1.out _ _ d12).mono ?_
    rintro e w13 ⟨rfl, d13, o13⟩
    have hx13 := hx12.other o13 HX.out
    have oz13 := oz.trans o13 (fun _ _ h => h)
    have cv13 := zstr_on w9.drew _ k hk6 oz13 (H9.out _ hB0)
    refine hK.out _ _ ⟨hx13.cells, cv13⟩ (fun hHeld => ?_)
    clear hK K
    try simp only [Act.put, List.setIfInBounds_toArray, List.set_cons_zero, List.set_cons_succ]
    refine wpAnyH_take (i := 44) (oi := { dst := some 104, op := Op.binOp BinOp.eql 44 (Operand.tmp 103) (Operand.const (Value.int IntKind.i64 1)) 44, type := 4, pos := "law.go:267", after := #[{ on := 43, ground := Ground.data }, { on := 39, ground := Ground.guard }], guard := some (39, true) }) (v := ?_) rfl (by kernel_rfl) (by kernel_rfl) (by kernel_rfl) (fun _ _ _ h => h) (Or.inl ⟨by rfl, ?hy44_11_16_25_35_33_43⟩) (by assumption) ?_
    case hy44_11_16_25_35_33_43 => (intro w hSw; (try dsimp only at hSw); go_simp; try with_reducible rfl)
    try simp only [Act.put, List.setIfInBounds_toArray, List.set_cons_zero, List.set_cons_succ]
    refine wpAnyH_take (i := 45) (oi := { dst := some 105, op := Op.pick (Operand.tmp 99) (Operand.tmp 104) (Operand.const (Value.bool false)), type := 4, pos := "law.go:267", after := #[{ on := 39, ground := Ground.data }, { on := 44, ground := Ground.data }], guard := none }) (v := ?_) rfl (by kernel_rfl) (by kernel_rfl) (by kernel_rfl) (fun _ _ _ h => h) (Or.inl ⟨by rfl, ?hy45_11_16_25_35_33_43⟩) (by assumption) ?_
    case hy45_11_16_25_35_33_43 => (intro w hSw; (try dsimp only at hSw); go_simp; try with_reducible rfl)
    try simp only [Act.put, List.setIfInBounds_toArray, List.set_cons_zero, List.set_cons_succ]
    refine wpAnyH_take (i := 46) (oi := { dst := some 106, op := Op.move (Operand.tmp 105), type := 4, pos := "law.go:267", after := #[{ on := 45, ground := Ground.data }, { on := 43, ground := Ground.chain }], guard := none }) (v := ?_) rfl (by kernel_rfl) (by kernel_rfl) (by kernel_rfl) (fun _ _ _ h => h) (Or.inl ⟨by rfl, ?hy46_11_16_25_35_33_43⟩) (by assumption) ?_
    case hy46_11_16_25_35_33_43 => (intro w hSw; (try dsimp only at hSw); go_simp; try with_reducible rfl)
    try simp only [Act.put, List.setIfInBounds_toArray, List.set_cons_zero, List.set_cons_succ]
    refine wpAnyH_take (i := 47) (oi := { dst := some 107, op := Op.move (Operand.tmp 12), type := 25, pos := "law.go:267", after := #[{ on := 46, ground := Ground.guard }], guard := some (46, true) }) (v := ?_) rfl (by kernel_rfl) (by kernel_rfl) (by kernel_rfl) (fun _ _ _ h => h) (Or.inl ⟨by rfl, ?hy47_11_16_25_35_33_43⟩) (by assumption) ?_
    case hy47_11_16_25_35_33_43 => (intro w hSw; (try dsimp only at hSw); go_simp; try with_reducible rfl)
    try simp only [Act.put, List.setIfInBounds_toArray, List.set_cons_zero, List.set_cons_succ]
    refine wpAnyH_take (i := 48) (oi := { dst := some 108, op := Op.move (Operand.tmp 13), type := 3, pos := "law.go:267", after := #[{ on := 46, ground := Ground.guard }], guard := some (46, true) }) (v := ?_) rfl (by kernel_rfl) (by kernel_rfl) (by kernel_rfl) (fun _ _ _ h => h) (Or.inl ⟨by rfl, ?hy48_11_16_25_35_33_43⟩) (by assumption) ?_
    case hy48_11_16_25_35_33_43 => (intro w hSw; (try dsimp only at hSw); go_simp; try with_reducible rfl)
    try simp only [Act.put, List.setIfInBounds_toArray, List.set_cons_zero, List.set_cons_succ]
    refine wpAnyH_take (i := 49) (oi := { dst := some 109, op := Op.binOp BinOp.sub 3 (Operand.const (Value.int IntKind.i64 9223372036854775807)) (Operand.tmp 108) 3, type := 3, pos := "law.go:267", after := #[{ on := 48, ground := Ground.data }, { on := 46, ground := Ground.guard }], guard := some (46, true) }) (v := ?_) rfl (by kernel_rfl) (by kernel_rfl) (by kernel_rfl) (fun _ _ _ h => h) (Or.inl ⟨by rfl, ?hy49_11_16_25_35_33_43⟩) (by assumption) ?_
    case hy49_11_16_25_35_33_43 => (intro w hSw; (try dsimp only at hSw); go_simp; try with_reducible rfl)
    try simp only [Act.put, List.setIfInBounds_toArray, List.set_cons_zero, List.set_cons_succ]
    refine wpAnyH_ready (rs := [50]) (by kernel_rfl) (by simp) ?_
    refine AllReadyH.cons (o := { dst := some 110, op := Op.call { callee := Callee.value (Operand.func 33), args := #[Operand.tmp 107, Operand.tmp 109, Operand.const (Value.string { data := #[97, 98] })], argTypes := #[25, 3, 9] }, type := 44, pos := "law.go:267", after := #[{ on := 47, ground := Ground.data }, { on := 49, ground := Ground.data }, { on := 46, ground := Ground.chain }, { on := 46, ground := Ground.guard }], guard := some (46, true) }) rfl (fun K hK => ?_) AllReadyH.nil
    go_simp
    refine (W2.out _ _ d13).mono ?_
    rintro e w14 ⟨rfl, d14, o14⟩
    have hx14 := hx13.other o14 (HX2.out _ _ z12)
    have oz14 := (oz13.mono (fun _ _ h => Or.inl h)).trans o14 (fun _ _ h => h)
    have cv14 := zstr_on w9.drew _ k hk6 oz14 (fun h => by rcases h with h | ⟨h, _⟩; exact H9.out _ hB0 h; exact absurd hBz (Nat.not_lt.2 h))
    refine hK.out _ _ ⟨hx14.cells, cv14⟩ (fun hHeld => ?_)
    clear hK K
    try simp only [Act.put, List.setIfInBounds_toArray, List.set_cons_zero, List.set_cons_succ]
    refine wpAnyH_take (i := 51) (oi := { dst := some 111, op := Op.binOp BinOp.eql 44 (Operand.tmp 110) (Operand.const (Value.int IntKind.i64 1)) 44, type := 4, pos := "law.go:267", after := #[{ on := 50, ground := Ground.data }, { on := 46, ground := Ground.guard }], guard := some (46, true) }) (v := ?_) rfl (by kernel_rfl) (by kernel_rfl) (by kernel_rfl) (fun _ _ _ h => h) (Or.inl ⟨by rfl, ?hy51_11_16_25_35_33_43_50⟩) (by assumption) ?_
    case hy51_11_16_25_35_33_43_50 => (intro w hSw; (try dsimp only at hSw); go_simp; try with_reducible rfl)
    try simp only [Act.put, List.setIfInBounds_toArray, List.set_cons_zero, List.set_cons_succ]
    refine wpAnyH_take (i := 52) (oi := { dst := some 112, op := Op.pick (Operand.tmp 106) (Operand.tmp 111) (Operand.const (Value.bool false)), type := 4, pos := "law.go:267", after := #[{ on := 46, ground := Ground.data }, { on := 51, ground := Ground.data }], guard := none }) (v := ?_) rfl (by kernel_rfl) (by kernel_rfl) (by kernel_rfl) (fun _ _ _ h => h) (Or.inl ⟨by rfl, ?hy52_11_16_25_35_33_43_50⟩) (by assumption) ?_
    case hy52_11_16_25_35_33_43_50 => (intro w hSw; (try dsimp only at hSw); go_simp; try with_reducible rfl)
    try simp only [Act.put, List.setIfInBounds_toArray, List.set_cons_zero, List.set_cons_succ]
    refine wpAnyH_take (i := 53) (oi := { dst := some 6, op := Op.assign (Operand.tmp 112), type := 4, pos := "law.go:267", after := #[{ on := 52, ground := Ground.data }, { on := 50, ground := Ground.chain }, { on := 0, ground := Ground.phase }, { on := 1, ground := Ground.phase }, { on := 2, ground := Ground.phase }, { on := 3, ground := Ground.phase }, { on := 4, ground := Ground.phase }, { on := 5, ground := Ground.phase }, { on := 6, ground := Ground.phase }, { on := 7, ground := Ground.phase }, { on := 8, ground := Ground.phase }, { on := 9, ground := Ground.phase }, { on := 10, ground := Ground.phase }, { on := 11, ground := Ground.phase }, { on := 12, ground := Ground.phase }, { on := 13, ground := Ground.phase }, { on := 14, ground := Ground.phase }, { on := 15, ground := Ground.phase }, { on := 16, ground := Ground.phase }, { on := 17, ground := Ground.phase }, { on := 18, ground := Ground.phase }, { on := 19, ground := Ground.phase }, { on := 20, ground := Ground.phase }, { on := 21, ground := Ground.phase }, { on := 22, ground := Ground.phase }, { on := 23, ground := Ground.phase }, { on := 24, ground := Ground.phase }, { on := 25, ground := Ground.phase }, { on := 26, ground := Ground.phase }, { on := 27, ground := Ground.phase }, { on := 28, ground := Ground.phase }, { on := 29, ground := Ground.phase }, { on := 30, ground := Ground.phase }, { on := 31, ground := Ground.phase }, { on := 32, ground := Ground.phase }, { on := 33, ground := Ground.phase }, { on := 34, ground := Ground.phase }, { on := 35, ground := Ground.phase }, { on := 36, ground := Ground.phase }, { on := 37, ground := Ground.phase }, { on := 38, ground := Ground.phase }, { on := 39, ground := Ground.phase }, { on := 40, ground := Ground.phase }, { on := 41, ground := Ground.phase }, { on := 42, ground := Ground.phase }, { on := 43, ground := Ground.phase }, { on := 44, ground := Ground.phase }, { on := 45, ground := Ground.phase }, { on := 46, ground := Ground.phase }, { on := 47, ground := Ground.phase }, { on := 48, ground := Ground.phase }, { on := 49, ground := Ground.phase }, { on := 50, ground := Ground.phase }, { on := 51, ground := Ground.phase }, { on := 52, ground := Ground.phase }], guard := none }) (v := ?_) rfl (by kernel_rfl) (by kernel_rfl) (by kernel_rfl) (fun _ _ _ h => h) (Or.inl ⟨by rfl, ?hy53_11_16_25_35_33_43_50⟩) (by assumption) ?_
    case hy53_11_16_25_35_33_43_50 => (intro w hSw; (try dsimp only at hSw); go_simp; try with_reducible rfl)
    try simp only [Act.put, List.setIfInBounds_toArray, List.set_cons_zero, List.set_cons_succ]
    refine wpAnyH_done (by kernel_rfl) ?_ _
    have qa := hS9.only (q9.trans (od9.trans o12 (fun _ _ h => h)) (fun _ _ h => h)) o13
    have qb := (hS9.grow z12).only qa o14
    go_wp2
    go_ret
    exact ⟨by simp, o0.trans (q7.trans qb (fun _ _ h => h)) (fun _ _ h => h)⟩
end Go.Proofs.Ytdpebdghhgojaaa
