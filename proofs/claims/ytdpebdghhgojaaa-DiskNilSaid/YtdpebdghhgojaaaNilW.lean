/- The walk of DiskNil: a nil disk's calls first. -/
import Derived.Test.YtdpebdghhgojaaaOwn
namespace Go.Proofs.Ytdpebdghhgojaaa
open Go.RowKit

theorem nil_fail (n : Int) (w : World) : Calls Try.prog 36 #[.pointer none, .int .i64 n] w fun e w' => e = .returned (.tuple #[]) ∧ w = w' := by
  go_enter Try.func36, Try.ntmps36
  go_wp2
  go_end0
  exact ⟨rfl, rfl⟩
theorem nil_crash (vq : Value) (zs : List Int) (w : World) (_hq : Ints w vq zs) : Calls Try.prog 29 #[.pointer none, vq] w (NewPost w) := by
  go_enter Try.func29, Try.ntmps29
  go_wp2_with fail
  refine (new_any _).mono ?_
  rintro e w' ⟨b, rfl, hb, h⟩
  subst hb
  go_wp2
  go_ret
  exact ⟨_, rfl, rfl, h⟩
theorem nil_size (w : World) : Calls Try.prog 23 #[.pointer none] w fun e w' => e = .returned (.int .i64 0) ∧ w = w' := by
  go_enter Try.func23, Try.ntmps23
  go_wp2
  go_ret
  exact ⟨rfl, rfl⟩
theorem nil_calls (w : World) : Calls Try.prog 25 #[.pointer none] w fun e w' => e = .returned (.int .i64 0) ∧ w = w' := by
  go_enter Try.func25, Try.ntmps25
  go_wp2
  go_ret
  exact ⟨rfl, rfl⟩
theorem nil_read (o n : Int) (w : World) : Calls Try.prog 35 #[.pointer none, .int .i64 o, .int .i64 n] w fun e w' => e = .returned (.string ⟨#[]⟩) ∧ w = w' := by
  go_enter Try.func35, Try.ntmps35
  go_wp2
  go_ret
  exact ⟨rfl, rfl⟩
theorem nil_write (o : Int) (s : ByteArray) (w : World) : Calls Try.prog 33 #[.pointer none, .int .i64 o, .string s] w fun e w' => e = .returned (.int .i64 1) ∧ w = w' := by
  go_enter Try.func33, Try.ntmps33
  go_wp2
  go_ret
  exact ⟨rfl, rfl⟩
theorem nil_sync (w : World) : Calls Try.prog 34 #[.pointer none] w fun e w' => e = .returned (.int .i64 1) ∧ w = w' := by
  go_enter Try.func34, Try.ntmps34
  go_wp2
  go_ret
  exact ⟨rfl, rfl⟩

theorem zero_disk (w : World) :
    DiskAt (w.alloc (.cells #[.slice none 0 0, .slice none 0 0, .slice none 0 0, .int .i64 0, .bool false, .int .i64 0] 62)) (grow Nob w (w.alloc (.cells #[.slice none 0 0, .slice none 0 0, .slice none 0 0, .int .i64 0, .bool false, .int .i64 0] 62))) w.heap.size .new := by
  have hl : (w.alloc (.cells #[.slice none 0 0, .slice none 0 0, .slice none 0 0, .int .i64 0, .bool false, .int .i64 0] 62)).heap[w.heap.size]? = some (.cells #[.slice none 0 0, .slice none 0 0, .slice none 0 0, .int .i64 0, .bool false, .int .i64 0] 62 (0, 0)) := heap_alloc_new w _
  have hn : ∀ k, ¬ Blk (.slice none 0 0) k := fun k hk => by simp [Blk, Value.ownBlock] at hk
  exact ⟨grow_lt (fun _ h => h.elim) (by simp), ⟨by decide, by decide, by decide, by decide, (fun h => by cases h), (fun _ h => by cases h)⟩, .slice none 0 0, .slice none 0 0, .slice none 0 0, [], hl, World.ownsRow_nil _ _ _ _, World.ownsRow_nil _ _ _ _, ⟨rfl, World.ownsRow_nil _ _ _ _, (fun i hi => by cases hi)⟩, .inr ⟨Nat.le_refl _, by simp⟩, fun k hk => (hn k hk).elim, fun k hk => (hn k hk).elim, fun k hk => (hn k hk).elim, (fun v hv => by cases hv)⟩

set_option maxRecDepth 100000 in
set_option maxHeartbeats 4000000 in
theorem nil_walk (off : Int) (s : ByteArray) (vq : Value) (zs : List Int) (w : World) (hoff : Rng off) (hs : s.size ≤ 9223372036854775807) (hq : Ints w vq zs) :
    Calls Try.prog 12 #[.int .i64 off, .string s, vq] w fun e w' => e = .returned (.bool true) ∧ Only Nob w w' := by
  go_enter Try.func12, Try.ntmps12
  go_wp2_with fail
  refine (sanity_any _).mono ?_
  rintro e w0 ⟨rfl, o0⟩
  go_wp2_with fail
  refine (nil_fail _ _).mono ?_
  rintro e w' ⟨rfl, rfl⟩
  go_wp2_with fail
  refine (nil_crash vq zs _ (hq.other o0 (fun _ _ _ _ _ h => h))).mono ?_
  rintro e w1 ⟨cb, rfl, -, c1, o1, -⟩
  have z1 := o1.size
  clear hq
  go_wp2_with fail
  have zd := zero_disk w1
  have zo : Only Nob w1 (w1.alloc (.cells #[.slice none 0 0, .slice none 0 0, .slice none 0 0, .int .i64 0, .bool false, .int .i64 0] 62)) := Only.alloc _ _ _
  refine (rnew_any _).mono ?_
  rintro e w2 ⟨rb, rfl, -, r2, o2⟩
  obtain ⟨hdesk, o3⟩ := desk_new zd zo r2 o2
  have s3 := (Since.nob w1).grow (b := w2.alloc (.cells #[.pointer (some ⟨w1.heap.size, 0, none⟩), .pointer (some ⟨rb, 0, none⟩)] 30)) (Nat.le_refl _)
  have c3 := c1.other o3 (fun _ _ h => h)
  have c1l := c1.lt
  clear zd r2 o2 zo c1
  go_wp2_with fail
  have hlt3 := c3.lt
  have hcl1 := c1l
  refine (do_any _ _ .new 0 off 0 s _ hdesk (by decide) (rng_small (by omega) (by omega)) hoff (rng_small (by omega) (by omega)) hs).mono ?_
  rintro e w4 ⟨rfl, d4, o4⟩
  have q4 := s3.only o3 o4
  have k4 := s3.grow (b := w4) o3.size
  have c4 := c3.other o4 (fun k hk hx => by have := hcl1 k hk; have := s3 k hx; omega)
  have hca := act_calls .new 0 off 0 s
  have hca2 : DS.new.calls = 0 := rfl
  generalize DS.new.act 0 off 0 s = da at d4 hca
  clear hdesk c3 hlt3 o4
  go_wp2_with fail
  refine (do_any _ _ da 7 0 off ByteArray.empty _ d4 (by omega) (rng_small (by omega) (by omega)) (rng_small (by omega) (by omega)) hoff (by decide)).mono ?_
  rintro e w5 ⟨rfl, d5, o5⟩
  have q5 := k4.only q4 o5
  have c5 := c4.other o5 (fun k hk hx => by have := hcl1 k hk; have := k4 k hx; omega)
  clear hca hca2 d4 c4 o5
  go_wp2_with fail
  refine (same_any _ _ _ _ d5).mono ?_
  rintro e w6 ⟨rfl, o6⟩
  have c6 := c5.other o6 (fun _ _ h => h)
  have q6 := q5.trans o6 (fun _ _ h => h)
  clear d5 c5
  go_wp2_with fail
  refine (nil_size _).mono ?_
  rintro e w' ⟨rfl, rfl⟩
  go_wp2_with fail
  refine (nil_calls _).mono ?_
  rintro e w' ⟨rfl, rfl⟩
  go_wp2_with fail
  refine (nil_read off 5 _).mono ?_
  rintro e w' ⟨rfl, rfl⟩
  go_wp2_with fail
  refine (nil_write off s _).mono ?_
  rintro e w' ⟨rfl, rfl⟩
  go_wp2_with fail
  refine (nil_sync _).mono ?_
  rintro e w' ⟨rfl, rfl⟩
  go_wp2_with fail
  refine (size_any _ cb _ _ c6).mono ?_
  rintro e w' ⟨rfl, rfl⟩
  go_wp2_with fail
  refine (write_fine _ cb 0 ⟨#[97]⟩ _ _ c6 (by decide) rfl (by omega) (by decide)).mono ?_
  rintro e w7 ⟨rfl, -, o7⟩
  have cS : Since w0 (grow Nob w0 w1) := (Since.nob w0).grow (Nat.le_refl _)
  go_wp2
  go_ret
  exact ⟨rfl, o0.trans (cS.only (o1.trans q6 (fun _ _ h => h)) o7) (fun _ _ h => h)⟩
end Go.Proofs.Ytdpebdghhgojaaa
