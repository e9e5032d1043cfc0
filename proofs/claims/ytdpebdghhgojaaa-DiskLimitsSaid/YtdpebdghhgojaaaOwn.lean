/- The walk of DiskOwn. -/
import Derived.Test.YtdpebdghhgojaaaCrashes
namespace Go.Proofs.Ytdpebdghhgojaaa
open Go.RowKit

theorem wr_good {d : DS} {off : Int} {s : List UInt8} (h : ¬ badW off s) (ho : d.fail = false) : d.wr off s = d.written off.toNat s ∧ d.wrE off s = 0 := by
  have hoff : ¬ d.off = true := by simp [DS.off, ho]
  refine ⟨?_, ?_⟩
  · unfold DS.wr; rw [if_neg (by rintro (h1 | h1); exact h h1; exact hoff h1)]
  · unfold DS.wrE; rw [if_neg h, if_neg hoff]
theorem sy_good {d : DS} (ho : d.fail = false) : d.sy = d.synced ∧ d.syE = 0 := by
  have hoff : ¬ d.off = true := by simp [DS.off, ho]
  exact ⟨by unfold DS.sy; rw [if_neg hoff], by unfold DS.syE; rw [if_neg hoff]⟩
theorem not_bad {off : Int} {s : List UInt8} (h0 : 0 ≤ off) (h1 : off + s.length ≤ 16777216) : ¬ badW off s := by unfold badW; omega

/-- A write that is in range, on a disk whose power does not fail. -/
theorem write_fine (fp : Nat → Prop) (b : Nat) (off : Int) (s : ByteArray) (d : DS) (w : World) (hd : DiskAt w fp b d) (hcl : d.calls < 100000) (hf : d.fail = false) (h0 : 0 ≤ off) (h1 : off + s.size ≤ 16777216) :
    Calls Try.prog 33 #[.pointer (some ⟨b, 0, none⟩), .int .i64 off, .string s] w (DPost fp b (d.written off.toNat s.data.toList) (.int .i64 0) w) := by
  have hl : s.data.toList.length = s.size := by simp
  have h := write_all fp b off s d w hd hcl ⟨by omega, by omega⟩ (by omega)
  obtain ⟨e1, e2⟩ := wr_good (d := d) (not_bad (s := s.data.toList) h0 (by omega)) hf
  rw [e1, e2] at h
  exact h
theorem sync_fine (fp : Nat → Prop) (b : Nat) (d : DS) (w : World) (hd : DiskAt w fp b d) (hcl : d.calls < 100000) (hf : d.fail = false) :
    Calls Try.prog 34 #[.pointer (some ⟨b, 0, none⟩)] w (DPost fp b d.synced (.int .i64 0) w) := by
  have h := sync_all fp b d w hd hcl
  rw [(sy_good hf).1, (sy_good hf).2] at h
  exact h

/-- The two cells of a pair by value. -/
structure PairAt (w : World) (b : Nat) (t0 t1 : Int) : Prop where
  c0 : w.cell? ⟨b, 0, none⟩ = some (.int .i64 t0)
  c1 : w.cell? ⟨b, 1, none⟩ = some (.int .i64 t1)
theorem PairAt.new (w : World) (t0 t1 : Int) : PairAt (w.alloc (.cells #[.int .i64 t0, .int .i64 t1] 42)) w.heap.size t0 t1 := ⟨by rw [World.cell?_alloc_new]; rfl, by rw [World.cell?_alloc_new]; rfl⟩
theorem PairAt.other {S : Nat → Prop} {w w' : World} {b : Nat} {t0 t1 : Int} (h : PairAt w b t0 t1) (ho : Only S w w') (hn : ¬ S b) : PairAt w' b t0 t1 :=
  ⟨(ho.cell (World.block_lt_of_cell? w _ h.c0) hn).trans h.c0, (ho.cell (World.block_lt_of_cell? w _ h.c1) hn).trans h.c1⟩
theorem PairAt.lt {w : World} {b : Nat} {t0 t1 : Int} (h : PairAt w b t0 t1) : b < w.heap.size := World.block_lt_of_cell? w _ h.c0

set_option maxRecDepth 100000 in
set_option maxHeartbeats 4000000 in
theorem own_walk (s : ByteArray) (va : Value) (zs : List Int) (t0 t1 : Int) (w : World) (hs : s.size ≤ 9223372036854775807) (ha : Ints w va zs) (ht0 : Rng t0) (ht1 : Rng t1) :
    Calls Try.prog 8 #[.string s, va, .agg #[.int .i64 t0, .int .i64 t1]] w fun e w' => e = .returned (.bool true) ∧ Only Nob w w' := by
  have m0 : 0 ≤ t0 % 100 := Int.emod_nonneg _ (by omega)
  have m1 : t0 % 100 < 100 := Int.emod_lt_of_pos _ (by omega)
  have m2 : 0 ≤ t1 % 100 := Int.emod_nonneg _ (by omega)
  have m3 : t1 % 100 < 100 := Int.emod_lt_of_pos _ (by omega)
  have ob : Only Nob w (w.alloc (.cells #[.int .i64 t0, .int .i64 t1] 42)) := Only.alloc _ _ _
  have hP := PairAt.new w t0 t1
  have hsA : s.size ≤ 150 → (s ++ (⟨#[101, 110, 100]⟩ : ByteArray)).size ≤ 153 := fun h => by rw [ByteArray.size_append]; have : (⟨#[101, 110, 100]⟩ : ByteArray).size = 3 := rfl; omega
  have hsB : (s.extract 0 150 ++ (⟨#[101, 110, 100]⟩ : ByteArray)).size ≤ 153 := by rw [ByteArray.size_append, ByteArray.size_extract]; have : (⟨#[101, 110, 100]⟩ : ByteArray).size = 3 := rfl; omega
  have HA := Lib.hid (And.intro hsA hsB)
  clear hsA hsB
  by_cases hs150 : s.size ≤ 150
  all_goals
    go_enter Try.func8, Try.ntmps8
    go_wp2_with fail
    refine (sanity_any _).mono ?_
    rintro e w0 ⟨rfl, o0⟩
    go_wp2_with fail
    refine (new_any _).mono ?_
    rintro e w1 ⟨b, rfl, -, d1, o1, -⟩
    have n1 := (Since.nob w0).grow (b := w1) (Nat.le_refl _)
    go_wp2_with fail
    obtain ⟨hsA, hsB⟩ := HA.out
    first
      | (have hsz := hsA hs150; clear hsA hsB; generalize s ++ (⟨#[101, 110, 100]⟩ : ByteArray) = aB at *)
      | (have hsz := hsB; clear hsA hsB; generalize s.extract 0 150 ++ (⟨#[101, 110, 100]⟩ : ByteArray) = aB at *)
    refine (write_fine _ b 0 aB _ _ d1 (by decide) rfl (by omega) (by omega)).mono ?_
    rintro e w2 ⟨rfl, d2, o2⟩
    have a2 := n1.only o1 o2
    have n2 := n1.grow (b := w2) o1.size
    go_wp2_with fail
    refine (sync_fine _ b _ _ d2 (by show (1 : Nat) < 100000; decide) rfl).mono ?_
    rintro e w3 ⟨rfl, d3, o3⟩
    have a3 := n2.only a2 o3
    have n3 := n2.grow (b := w3) a2.size
    have a03 := o0.trans a3 (fun _ _ h => h)
    have P3 := hP.other a03 (fun h => h)
    have p30 := P3.c0
    clear d1 d2 n1 n2
    go_wp2_with fail
    refine (mod_any t0 100 _ ht0 (by omega) (by omega)).mono ?_
    rintro e w' ⟨rfl, rfl⟩
    go_wp2_with fail
    refine (write_fine _ b (t0 % 100) ⟨#[110, 101, 119]⟩ _ _ d3 (by show (2 : Nat) < 100000; decide) rfl (by omega) (by have : (⟨#[110, 101, 119]⟩ : ByteArray).size = 3 := rfl; omega)).mono ?_
    rintro e w4 ⟨rfl, d4, o4⟩
    have a4 := n3.only a3 o4
    have n4 := n3.grow (b := w4) a3.size
    have a04 := o0.trans a4 (fun _ _ h => h)
    go_wp2_with fail
    refine (crash_any _ b _ va zs _ d4 (ha.other (ob.trans a04 (fun _ _ h => h)) (fun _ _ _ _ _ h => h))).mono ?_
    rintro e w5 ⟨cb, rfl, -, c5, o5⟩
    have d5 := d4.other o5 (fun _ _ h => h)
    have nc : Since w4 (grow Nob w4 w5) := (Since.nob w4).grow (Nat.le_refl _)
    have hlt4 := d4.lt
    clear d3 n3
    go_wp2_with fail
    refine (read_all _ b 0 500 _ _ d5 (rng_small (by omega) (by omega)) (rng_small (by omega) (by omega))).mono ?_
    rintro e w6 ⟨rfl, o6⟩
    have d6 := d5.other o6 (fun _ _ h => h)
    have c6 := c5.other o6 (fun _ _ h => h)
    have q6 := o5.trans o6 (fun _ _ h => h)
    have P6 := (hP.other a04 (fun h => h)).other q6 (fun h => h)
    have p61 := P6.c1
    go_wp2_with fail
    refine (mod_any t1 100 _ ht1 (by omega) (by omega)).mono ?_
    rintro e w' ⟨rfl, rfl⟩
    go_wp2_with fail
    refine (write_fine _ cb (t1 % 100) ⟨#[99, 114, 97, 115, 104]⟩ _ _ c6 (by show (0 : Nat) < 100000; decide) rfl (by omega) (by have : (⟨#[99, 114, 97, 115, 104]⟩ : ByteArray).size = 5 := rfl; omega)).mono ?_
    rintro e w7 ⟨rfl, c7, o7⟩
    have d7 := d6.other o7 (fun k hk hx => by have := hlt4 k hk; have := nc k hx; omega)
    have q7 := nc.only q6 o7
    have nc7 := nc.grow (b := w7) q6.size
    go_wp2_with fail
    refine (read_all _ cb 0 500 _ _ c7 (rng_small (by omega) (by omega)) (rng_small (by omega) (by omega))).mono ?_
    rintro e w8 ⟨rfl, o8⟩
    have d8 := d7.other o8 (fun _ _ h => h)
    have c8 := c7.other o8 (fun _ _ h => h)
    go_wp2_with fail
    refine (read_all _ b 0 500 _ _ d8 (rng_small (by omega) (by omega)) (rng_small (by omega) (by omega))).mono ?_
    rintro e w9 ⟨rfl, o9⟩
    have d9 := d8.other o9 (fun _ _ h => h)
    have c9 := c8.other o9 (fun _ _ h => h)
    have q9 := q7.trans (o8.trans o9 (fun _ _ h => h)) (fun _ _ h => h)
    go_wp2_with fail
    refine (write_fine _ b 0 ⟨#[99, 104, 97, 110, 103, 101, 100, 32, 97, 103, 97, 105, 110]⟩ _ _ d9 (by show (3 : Nat) < 100000; decide) rfl (by omega) (by decide)).mono ?_
    rintro e w10 ⟨rfl, -, o10⟩
    have c10 := c9.other o10 (fun k hk hx => by have := hlt4 k hx; have := nc7 k hk; omega)
    have a10 := n4.only (a4.trans q9 (fun _ _ h => h)) o10
    go_wp2_with fail
    refine (read_all _ cb 0 500 _ _ c10 (rng_small (by omega) (by omega)) (rng_small (by omega) (by omega))).mono ?_
    rintro e w11 ⟨rfl, o11⟩
    have c11 := c10.other o11 (fun _ _ h => h)
    go_wp2_with fail
    refine (calls_any _ cb _ _ c11).mono ?_
    rintro e w' ⟨rfl, rfl⟩
    go_wp2
    go_ret
    exact ⟨by simp [DS.written, DS.tick, DS.crashed], ob.trans (o0.trans (a10.trans o11 (fun _ _ h => h)) (fun _ _ h => h)) (fun _ _ h => h)⟩
end Go.Proofs.Ytdpebdghhgojaaa
