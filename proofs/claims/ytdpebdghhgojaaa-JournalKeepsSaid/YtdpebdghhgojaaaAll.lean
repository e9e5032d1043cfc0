/- Each call on a disk and on the reference's disk as ONE contract over the common state. -/
import Derived.Test.YtdpebdghhgojaaaRCrash
namespace Go.Proofs.Ytdpebdghhgojaaa
open Go.RowKit

def badW (off : Int) (s : List UInt8) : Prop := off < 0 ∨ 16777216 < off ∨ 16777216 - off < s.length
instance (off : Int) (s : List UInt8) : Decidable (badW off s) := by unfold badW; infer_instance

def DS.wr (d : DS) (off : Int) (s : List UInt8) : DS := if badW off s ∨ d.off = true then d else d.written off.toNat s
def DS.wrE (d : DS) (off : Int) (s : List UInt8) : Int := if badW off s then 1 else if d.off = true then 70 else 0
def DS.sy (d : DS) : DS := if d.off = true then d else d.synced
def DS.syE (d : DS) : Int := if d.off = true then 70 else 0

theorem DiskAt.mono {fp fp' : Nat → Prop} {w : World} {b : Nat} {d : DS} (h : DiskAt w fp b d) (hs : ∀ k, fp k → fp' k) (hl : ∀ k, fp' k → k < w.heap.size) : DiskAt w fp' b d := by
  obtain ⟨_, h2, vn, vs, vp, vts, h3⟩ := h
  exact ⟨hl, h2, vn, vs, vp, vts, h3.mono hs⟩
theorem RefAt.mono {fp fp' : Nat → Prop} {w : World} {b : Nat} {d : DS} (h : RefAt w fp b d) (hs : ∀ k, fp k → fp' k) (hl : ∀ k, fp' k → k < w.heap.size) : RefAt w fp' b d := by
  obtain ⟨_, h2, vp, l, h3⟩ := h
  exact ⟨hl, h2, vp, l, h3.mono hs⟩
theorem DiskAt.stay {fp : Nat → Prop} {w : World} {b : Nat} {d : DS} (h : DiskAt w fp b d) : DiskAt w (grow fp w w) b d :=
  h.mono (fun _ h => .inl h) (grow_lt h.lt (Nat.le_refl _))
theorem RefAt.stay {fp : Nat → Prop} {w : World} {b : Nat} {d : DS} (h : RefAt w fp b d) : RefAt w (grow fp w w) b d :=
  h.mono (fun _ h => .inl h) (grow_lt h.lt (Nat.le_refl _))
theorem DiskAt.none {fp : Nat → Prop} {w w' : World} {b : Nat} {d : DS} (h : DiskAt w fp b d) (ho : Only Nob w w') : DiskAt w' (grow fp w w') b d :=
  (h.other ho (fun _ _ h => h)).mono (fun _ h => .inl h) (grow_lt h.lt ho.size)
theorem RefAt.none {fp : Nat → Prop} {w w' : World} {b : Nat} {d : DS} (h : RefAt w fp b d) (ho : Only Nob w w') : RefAt w' (grow fp w w') b d :=
  (h.other ho (fun _ _ h => h)).mono (fun _ h => .inl h) (grow_lt h.lt ho.size)

def Rng (x : Int) : Prop := -9223372036854775808 ≤ x ∧ x ≤ 9223372036854775807

theorem write_all (fp : Nat → Prop) (b : Nat) (off : Int) (s : ByteArray) (d : DS) (w : World) (hd : DiskAt w fp b d) (hcl : d.calls < 100000) (hoff : Rng off) (hs : s.size ≤ 140737488355328) :
    Calls Try.prog 33 #[.pointer (some ⟨b, 0, none⟩), .int .i64 off, .string s] w (DPost fp b (d.wr off s.data.toList) (.int .i64 (d.wrE off s.data.toList)) w) := by
  have hl : s.data.toList.length = s.size := by simp
  by_cases hb : badW off s.data.toList
  · have hb' : off < 0 ∨ 16777216 < off ∨ 16777216 - off < s.size := by rw [← hl]; exact hb
    refine (write_bad b off s w hb' hoff.1 hoff.2 hs).mono ?_
    rintro e w' ⟨rfl, rfl⟩
    rw [DS.wr, DS.wrE, if_pos hb, if_pos (.inl hb)]
    exact ⟨rfl, hd.stay, Only.refl _ _⟩
  · have hb2 : ¬ (off < 0 ∨ 16777216 < off ∨ 16777216 - off < s.data.toList.length) := hb
    rw [hl] at hb2
    obtain ⟨o, rfl⟩ := Int.eq_ofNat_of_zero_le (show 0 ≤ off by omega)
    by_cases ho : d.off = true
    · refine (write_off fp b o s d w hd ho (by omega) (by omega)).mono ?_
      rintro e w' ⟨rfl, rfl⟩
      rw [DS.wr, DS.wrE, if_neg hb, if_pos ho, if_pos (.inr ho)]
      exact ⟨rfl, hd.stay, Only.refl _ _⟩
    · rw [DS.wr, DS.wrE, if_neg hb, if_neg ho, if_neg (by rintro (h | h); exact hb h; exact ho h)]
      exact write_on fp b o s d w hd (by simpa using ho) hcl (by omega) (by omega)

theorem rwrite_all (fp : Nat → Prop) (b : Nat) (off : Int) (s : ByteArray) (d : DS) (w : World) (hd : RefAt w fp b d) (hcl : d.calls < 100000) (hoff : Rng off) (hs : s.size ≤ 140737488355328) :
    Calls Try.prog 38 #[.pointer (some ⟨b, 0, none⟩), .int .i64 off, .string s] w (RPost fp b (d.wr off s.data.toList) (.int .i64 (d.wrE off s.data.toList)) w) := by
  have hl : s.data.toList.length = s.size := by simp
  by_cases hb : badW off s.data.toList
  · have hb' : off < 0 ∨ 16777216 < off ∨ 16777216 - off < s.size := by rw [← hl]; exact hb
    refine (rwrite_bad b off s w hb' hoff.1 hoff.2 hs).mono ?_
    rintro e w' ⟨rfl, rfl⟩
    rw [DS.wr, DS.wrE, if_pos hb, if_pos (.inl hb)]
    exact ⟨rfl, hd.stay, Only.refl _ _⟩
  · have hb2 : ¬ (off < 0 ∨ 16777216 < off ∨ 16777216 - off < s.data.toList.length) := hb
    rw [hl] at hb2
    obtain ⟨o, rfl⟩ := Int.eq_ofNat_of_zero_le (show 0 ≤ off by omega)
    by_cases ho : d.off = true
    · refine (rwrite_off fp b o s d w hd ho (by omega) (by omega)).mono ?_
      rintro e w' ⟨rfl, rfl⟩
      rw [DS.wr, DS.wrE, if_neg hb, if_pos ho, if_pos (.inr ho)]
      exact ⟨rfl, hd.stay, Only.refl _ _⟩
    · rw [DS.wr, DS.wrE, if_neg hb, if_neg ho, if_neg (by rintro (h | h); exact hb h; exact ho h)]
      exact rwrite_on fp b o s d w hd (by simpa using ho) hcl (by omega) (by omega)

theorem sync_all (fp : Nat → Prop) (b : Nat) (d : DS) (w : World) (hd : DiskAt w fp b d) (hcl : d.calls < 100000) :
    Calls Try.prog 34 #[.pointer (some ⟨b, 0, none⟩)] w (DPost fp b d.sy (.int .i64 d.syE) w) := by
  by_cases ho : d.off = true
  · refine (sync_off fp b d w hd ho).mono ?_
    rintro e w' ⟨rfl, rfl⟩
    rw [DS.sy, DS.syE, if_pos ho, if_pos ho]
    exact ⟨rfl, hd.stay, Only.refl _ _⟩
  · rw [DS.sy, DS.syE, if_neg ho, if_neg ho]
    exact sync_on fp b d w hd (by simpa using ho) hcl

theorem rsync_all (fp : Nat → Prop) (b : Nat) (d : DS) (w : World) (hd : RefAt w fp b d) (hcl : d.calls < 100000) :
    Calls Try.prog 48 #[.pointer (some ⟨b, 0, none⟩)] w (RPost fp b d.sy (.int .i64 d.syE) w) := by
  by_cases ho : d.off = true
  · refine (rsync_off fp b d w hd ho).mono ?_
    rintro e w' ⟨rfl, rfl⟩
    rw [DS.sy, DS.syE, if_pos ho, if_pos ho]
    exact ⟨rfl, hd.stay, Only.refl _ _⟩
  · rw [DS.sy, DS.syE, if_neg ho, if_neg ho]
    exact rsync_on fp b d w hd (by simpa using ho) hcl

def ReadPost (l : List UInt8) (w : World) (e : Ending) (w' : World) : Prop := e = .returned (.string ⟨l.toArray⟩) ∧ Only Nob w w'

theorem read_nil (d : DS) (off n : Int) (h : off < 0 ∨ n < 1 ∨ d.now.length ≤ off) : d.read off n = [] := by
  unfold DS.read
  by_cases h1 : off < 0 ∨ n < 1
  · rw [if_pos h1]
  · rw [if_neg h1, List.drop_eq_nil_of_le (by omega), List.take_nil]

theorem read_all (fp : Nat → Prop) (b : Nat) (off n : Int) (d : DS) (w : World) (hd : DiskAt w fp b d) (hoff : Rng off) (hn : Rng n) :
    Calls Try.prog 35 #[.pointer (some ⟨b, 0, none⟩), .int .i64 off, .int .i64 n] w (ReadPost (d.read off n) w) := by
  by_cases h : off < 0 ∨ n < 1 ∨ d.now.length ≤ off
  · refine (read_none fp b d off n w hd h hoff.1 hoff.2).mono ?_
    rintro e w' ⟨rfl, rfl⟩
    rw [read_nil d off n h]
    exact ⟨rfl, Only.refl _ _⟩
  · obtain ⟨o, rfl⟩ := Int.eq_ofNat_of_zero_le (show 0 ≤ off by omega)
    obtain ⟨m, rfl⟩ := Int.eq_ofNat_of_zero_le (show 0 ≤ n by omega)
    refine (read_some fp b o m d w hd (by omega) (by omega) (by have := hn.2; omega)).mono ?_
    rintro e w' ⟨rfl, ho⟩
    refine ⟨?_, ho⟩
    rw [DS.read, if_neg (by omega)]
    rfl

theorem rread_all (fp : Nat → Prop) (b : Nat) (off n : Int) (d : DS) (w : World) (hd : RefAt w fp b d) (hoff : Rng off) (hn : Rng n) :
    Calls Try.prog 37 #[.pointer (some ⟨b, 0, none⟩), .int .i64 off, .int .i64 n] w (ReadPost (d.read off n) w) := by
  by_cases h : off < 0 ∨ n < 1 ∨ d.now.length ≤ off
  · refine (rread_none fp b d off n w hd h hoff.1 hoff.2).mono ?_
    rintro e w' ⟨rfl, rfl⟩
    rw [read_nil d off n h]
    exact ⟨rfl, Only.refl _ _⟩
  · obtain ⟨o, rfl⟩ := Int.eq_ofNat_of_zero_le (show 0 ≤ off by omega)
    obtain ⟨m, rfl⟩ := Int.eq_ofNat_of_zero_le (show 0 ≤ n by omega)
    refine (rread_some fp b o m d w hd (by omega) (by omega) (by have := hn.2; omega)).mono ?_
    rintro e w' ⟨rfl, ho⟩
    refine ⟨?_, ho⟩
    rw [DS.read, if_neg (by omega)]
    rfl

/-! ### Small functions of the law's package -/

theorem mod_any (n m : Int) (w : World) (_hn : Rng n) (h0 : 1 ≤ m) (h1 : m ≤ 1000) :
    Calls Try.prog 28 #[.int .i64 n, .int .i64 m] w fun e w' => e = .returned (.int .i64 (n % m)) ∧ w = w' := by
  have k1 := Int.tmod_lt_of_pos n (show 0 < m by omega)
  have k2 := Int.lt_tmod_of_pos n (show 0 < m by omega)
  have e : (n.tmod m + m) % m = n % m := by
    rw [Int.add_emod_right, Int.tmod_def, Int.sub_mul_emod_self_left]
  have E := Lib.hid e
  clear e
  go_enter Try.func28, Try.ntmps28
  go_wp2
  go_ret
  exact ⟨congrArg (fun x => Ending.returned (.int .i64 x)) E.out, rfl⟩

/-- Where a call's offset is. -/
def whereI (off : Int) : Int := if off < 0 ∨ 16777216 < off then off else off % 300

theorem where_any (k off n : Int) (t : ByteArray) (w : World) (ho : Rng off) :
    Calls Try.prog 49 #[.agg #[.int .i64 k, .int .i64 off, .int .i64 n, .string t]] w fun e w' => e = .returned (.int .i64 (whereI off)) ∧ Only Nob w w' := by
  unfold whereI
  by_cases h1 : off < 0
  · rw [if_pos (.inl h1)]
    go_enter Try.func49, Try.ntmps49
    go_wp2
    go_ret
    exact ⟨rfl, Only.alloc _ _ _⟩
  by_cases h2 : 16777216 < off
  · rw [if_pos (.inr h2)]
    go_enter Try.func49, Try.ntmps49
    go_wp2
    go_ret
    exact ⟨rfl, Only.alloc _ _ _⟩
  rw [if_neg (by omega)]
  go_enter Try.func49, Try.ntmps49
  go_wp2_with (go_at_call 28; refine (mod_any off 300 _ ho (by omega) (by omega)).mono ?_; rintro e w' ⟨rfl, rfl⟩)
  go_ret
  exact ⟨rfl, Only.alloc _ _ _⟩

/-- A text repeated until it is long enough. -/
def longF (t : ByteArray) (m : Int) : Nat → ByteArray → ByteArray
  | 0, s => s
  | k + 1, s => if 0 < s.size ∧ (s.size : Int) < m then longF t m k (s ++ t) else s
def longS (t : ByteArray) (n : Int) : ByteArray := (longF t (n % 200) 200 t).extract 0 (min (longF t (n % 200) 200 t).size 200)
theorem longS_size (t : ByteArray) (n : Int) : (longS t n).size ≤ 200 := by unfold longS; rw [ByteArray.size_extract]; omega

theorem longF_more (t : ByteArray) (m : Int) (ht : 0 < t.size) : ∀ (k : Nat) (s : ByteArray), m ≤ s.size + k → longF t m (k + 1) s = longF t m k s
  | 0, s, h => by
    simp only [longF]
    rw [if_neg (by omega)]
  | k + 1, s, h => by
    rw [longF]
    rw [show longF t m (k + 1) s = if 0 < s.size ∧ (s.size : Int) < m then longF t m k (s ++ t) else s from rfl]
    by_cases hc : 0 < s.size ∧ (s.size : Int) < m
    · rw [if_pos hc, if_pos hc]
      exact longF_more t m ht k (s ++ t) (by rw [ByteArray.size_append]; omega)
    · rw [if_neg hc, if_neg hc]

theorem longF_le (t : ByteArray) (m : Int) (ht : 0 < t.size) (s : ByteArray) (k : Nat) (hk : m ≤ s.size + k) : ∀ j, longF t m (k + j) s = longF t m k s
  | 0 => rfl
  | j + 1 => by rw [← Nat.add_assoc, longF_more t m ht (k + j) s (by omega), longF_le t m ht s k hk j]

def LongPost (s : ByteArray) (w : World) (e : Ending) (w' : World) : Prop := e = .returned (.string s) ∧ Only Nob w w'

def LRel (t : ByteArray) (m : Int) (w : World) (sv : Value) (wr : World) : Prop :=
  ∃ (k : Nat) (s : ByteArray), sv = .string s ∧ k ≤ 200 ∧ longF t m (200 - k) s = longF t m 200 t ∧ (0 < t.size → k ≤ s.size) ∧ (t.size = 0 → s.size = 0) ∧ t.size ≤ s.size ∧ wr = w

set_option maxRecDepth 100000 in
theorem long_any (k off n : Int) (t : ByteArray) (w : World) (hn : Rng n) (ht : t.size ≤ 9223372036854775807) :
    Calls Try.prog 51 #[.agg #[.int .i64 k, .int .i64 off, .int .i64 n, .string t]] w (LongPost (longS t n) w) := by
  have hm0 : 0 ≤ n % 200 := Int.emod_nonneg _ (by omega)
  have hm1 : n % 200 < 200 := Int.emod_lt_of_pos _ (by omega)
  go_enter Try.func51, Try.ntmps51
  go_wp2_with fail
  go_loopw [3] (fun sv wr => LRel t (n % 200) (w.alloc (.cells #[.int .i64 k, .int .i64 off, .int .i64 n, .string t] 33)) sv wr) (fun sv _ => 400 - strLen sv)
  case atStart => exact ⟨0, t, rfl, by omega, rfl, fun _ => by omega, fun h => h, Nat.le_refl _, rfl⟩
  case round =>
    obtain ⟨j, s, rfl, g1, g2, g3, g4, g5, rfl⟩ := hrel
    have G2 := Lib.hid g2
    clear g2
    by_cases h0 : 0 < s.size
    · have h00 : 0 < t.size := by omega
      by_cases h1 : (s.size : Int) < n % 200
      · go_wp2_with (go_at_call 28; refine (mod_any n 200 _ hn (by omega) (by omega)).mono ?_; rintro e w' ⟨rfl, rfl⟩)
        go_roundw
        case rel =>
          refine ⟨j + 1, s ++ t, rfl, by omega, ?_, fun _ => by rw [ByteArray.size_append]; omega, fun h => by omega, by rw [ByteArray.size_append]; omega, rfl⟩
          rw [← G2.out, show 200 - j = (200 - (j + 1)) + 1 by omega, longF, if_pos ⟨h0, h1⟩]
        case measure => simp [strLen, ByteArray.size_append]; omega
      · have hF : Hid (longF t (n % 200) 200 t = s) := by
          show _ = _
          rw [← G2.out]
          cases 200 - j with
          | zero => rfl
          | succ q => rw [longF, if_neg (by omega)]
        by_cases h2 : s.size ≤ 200
        · go_wp2_with (go_at_call 28; refine (mod_any n 200 _ hn (by omega) (by omega)).mono ?_; rintro e w' ⟨rfl, rfl⟩)
          go_ret
          refine ⟨congrArg (fun x => Ending.returned (.string x)) ?_, Only.alloc _ _ _⟩
          unfold longS
          rw [hF.out, Nat.min_eq_left h2]
          simp
        · go_wp2_with (go_at_call 28; refine (mod_any n 200 _ hn (by omega) (by omega)).mono ?_; rintro e w' ⟨rfl, rfl⟩)
          go_ret
          refine ⟨congrArg (fun x => Ending.returned (.string x)) ?_, Only.alloc _ _ _⟩
          unfold longS
          rw [hF.out, Nat.min_eq_right (by omega)]
    · have hF : Hid (longF t (n % 200) 200 t = s) := by
        show _ = _
        rw [← G2.out]
        cases 200 - j with
        | zero => rfl
        | succ q => rw [longF, if_neg (by omega)]
      have hs0 : s.size = 0 := by omega
      have hsE : Hid (s = ByteArray.empty) := str_eq ((List.eq_nil_of_length_eq_zero (by simpa using hs0) : s.data.toList = []).trans rfl)
      go_wp2
      go_ret
      refine ⟨congrArg (fun x => Ending.returned (.string x)) ?_, Only.alloc _ _ _⟩
      unfold longS
      rw [hF.out, hsE.out]
      rfl

/-- The numbers that one number determines. -/
def survI (n : Int) : List Int := [n, wrap64 (n.tdiv 2), wrap64 (n.tdiv 3), wrap64 (n.tdiv 5), wrap64 (n.tdiv 7)].take (n % 6).toNat

def SurvPost (n : Int) (w : World) (e : Ending) (w' : World) : Prop := ∃ v, e = .returned v ∧ Ints w' v (survI n) ∧ Only Nob w w' ∧ ∀ k, Blk v k → w.heap.size ≤ k

set_option maxRecDepth 100000 in
theorem survive_any (n : Int) (w : World) (hn : Rng n) : Calls Try.prog 31 #[.int .i64 n] w (SurvPost n w) := by
  have hm0 : 0 ≤ n % 6 := Int.emod_nonneg _ (by omega)
  have hm1 : n % 6 < 6 := Int.emod_lt_of_pos _ (by omega)
  obtain ⟨q, hq⟩ := Int.eq_ofNat_of_zero_le hm0
  go_enter Try.func31, Try.ntmps31
  go_wp2_with fail
  refine (mod_any n 6 _ hn (by omega) (by omega)).mono ?_
  rintro e w' ⟨rfl, rfl⟩
  rw [hq]
  have hQ := Lib.hid hq
  have hq6 : q < 6 := by omega
  clear hq hm0 hm1
  go_wp2
  go_ret
  refine ⟨_, rfl, ?_, Only.alloc _ _ _, fun k hk => by simp [Blk, Value.ownBlock] at hk; omega⟩
  have e : survI n = [n, wrap64 (n.tdiv 2), wrap64 (n.tdiv 3), wrap64 (n.tdiv 5), wrap64 (n.tdiv 7)].take q := by unfold survI; rw [hQ.out]; rfl
  by_cases hq0 : q = 0
  · subst hq0
    exact .inl ⟨by rw [e]; rfl, _, _, rfl⟩
  · have hl : (survI n).length = q := by rw [e]; simp; omega
    refine .inr ⟨by omega, w.heap.size, 0, 5, by rw [hl]; rfl, by omega, fun i hi => ?_⟩
    rw [Nat.zero_add, World.cell?_alloc_new, e]
    rw [hl] at hi
    match i, hi with
    | 0, _ => rw [List.getD, List.getElem?_take, if_pos (by omega)]; rfl
    | 1, _ => rw [List.getD, List.getElem?_take, if_pos (by omega)]; rfl
    | 2, _ => rw [List.getD, List.getElem?_take, if_pos (by omega)]; rfl
    | 3, _ => rw [List.getD, List.getElem?_take, if_pos (by omega)]; rfl
    | 4, _ => rw [List.getD, List.getElem?_take, if_pos (by omega)]; rfl
    | j + 5, h => omega

theorem Row.set {w : World} {g n cap : Nat} {l : List UInt8} (h : Row w (.slice (some ⟨g, 0, none⟩) n cap) l) (i : Nat) (c : UInt8) : Row (w.setCell ⟨g, i, none⟩ (.int .u8 c.toNat)) (.slice (some ⟨g, 0, none⟩) n cap) (l.set i c) := by
  rcases h.2 with ⟨hv, _⟩ | ⟨g', cap', cur, hv, hb, hg, hnc, hcm, hcs, ht⟩
  · simp at hv
  · simp only [Value.slice.injEq, Option.some.injEq, Addr.mk.injEq] at hv
    obtain ⟨⟨rfl, _, _⟩, rfl, rfl⟩ := hv
    refine ⟨by simp, .inr ⟨g, cap, _, by rw [List.length_set], Nat.zero_le _, heap_setCell_same w g i cur 5 _ hg, by simpa using hnc, hcm, by simpa using hcs, ?_⟩⟩
    simp only [Nat.mul_one, List.length_set] at ht ⊢
    rw [Array.toList_setIfInBounds, List.take_set, ht]
    simp [cellsB, List.map_set]

theorem rep_set (c : UInt8) (n k : Nat) (h : k < n) : (List.replicate k c ++ List.replicate (n - k) 0).set k c = List.replicate (k + 1) c ++ List.replicate (n - (k + 1)) 0 := by
  rw [List.set_append, if_neg (by simp), List.length_replicate, Nat.sub_self, show n - k = (n - (k + 1)) + 1 by omega, List.replicate_succ, List.set_cons_zero, List.replicate_succ', List.append_assoc]
  rfl

def RepRel (c : UInt8) (n g : Nat) (w : World) (iv : Value) (wr : World) : Prop :=
  ∃ k : Nat, iv = .int .i64 k ∧ k ≤ n ∧ Row wr (.slice (some ⟨g, 0, none⟩) n n) (List.replicate k c ++ List.replicate (n - k) 0) ∧ Only Nob w wr

theorem repeated_any (c : UInt8) (n : Nat) (w : World) (hn : n ≤ 100000) : Calls Try.prog 32 #[.int .u8 c.toNat, .int .i64 n] w (LongPost ⟨(List.replicate n c).toArray⟩ w) := by
  have hz := run_zeros w n (by omega)
  have hrow := zeroWorld_row w n (by omega)
  have hzo := zeroWorld_only w n
  have hzs := zeroWorld_size w n
  go_enter Try.func32, Try.ntmps32
  go_wp2_with fail
  go_loopw [6] (fun iv wr => RepRel c n w.heap.size w iv wr) (fun iv _ => n - (intOf iv).toNat)
  case atStart => exact ⟨0, rfl, Nat.zero_le _, by simpa using hrow, hzo⟩
  case round =>
    obtain ⟨k, rfl, g1, g2, g3⟩ := hrel
    clear hz hrow hzo hzs
    by_cases hk : k < n
    · have hcell := g2.cells (g := w.heap.size) rfl k (.int .u8 0) (by rw [cellsB_append, List.getElem?_append_right (by simp), cellsB_replicate, List.getElem?_replicate, if_pos (by rw [length_cellsB, List.length_replicate]; omega)])
      rw [addr_add0] at hcell
      have hfr : wr.frozen? ⟨w.heap.size, k, none⟩ = false := by
        rcases g2.2 with ⟨h, _⟩ | ⟨g, cap, cur, hv, _, hg, _⟩
        · simp at h
        · simp only [Value.slice.injEq, Option.some.injEq, Addr.mk.injEq] at hv
          rw [hv.1.1]
          simp [World.frozen?, hg]
      go_wp2
      go_roundw
      case rel =>
        have := g2.set k c
        rw [rep_set c n k hk] at this
        exact ⟨k + 1, by simp, hk, this, g3.trans (Only.setCell (S := Is w.heap.size) wr ⟨w.heap.size, k, none⟩ _ rfl) (fun i hi hx => by have : i = w.heap.size := hx; omega)⟩
      case measure => simp [intOf]; omega
    · have hkn : k = n := by omega
      subst hkn
      rw [Nat.sub_self, List.replicate_zero, List.append_nil] at g2
      have hst := run_str_of wr w.heap.size k (List.replicate k c) (by have := g2.src (by simp); simpa using this)
      rw [List.length_replicate] at hst
      go_wp2
      go_ret
      exact ⟨by simp, g3⟩
end Go.Proofs.Ytdpebdghhgojaaa
