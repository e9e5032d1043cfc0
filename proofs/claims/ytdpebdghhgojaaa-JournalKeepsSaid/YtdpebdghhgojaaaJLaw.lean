/- The plain laws of the journal: how records lie on a disk, what a torn Append leaves, what a crash keeps. No program is looked at. -/
import Derived.Test.YtdpebdghhgojaaaAll
namespace Go.Proofs.Ytdpebdghhgojaaa

theorem parts_geJ : ∀ (n off : Nat) (s : List UInt8), s.length ≤ n → ∀ p ∈ parts off s, off ≤ p.1 := by
  intro n
  induction n with
  | zero => intro off s h; obtain rfl : s = [] := List.eq_nil_of_length_eq_zero (by omega); simp [parts_nil]
  | succ n ih =>
    intro off s h p hp
    by_cases h0 : 0 < s.length
    · have hm := Nat.mod_lt off (show 64 > 0 by omega)
      rw [parts_cons off s h0] at hp
      rcases List.mem_cons.1 hp with rfl | hp
      · exact Nat.le_refl _
      · have := ih _ _ (by simp; omega) p hp
        omega
    · obtain rfl : s = [] := List.eq_nil_of_length_eq_zero (by omega)
      simp [parts_nil] at hp

/-- n as bytes, the most significant first. -/
def numB : Nat → Nat → List UInt8
  | _, 0 => []
  | n, k + 1 => numB (n / 256) k ++ [UInt8.ofNat n]
/-- The number that the first bytes denote; those that are missing are zeros. -/
def valN (s : List UInt8) : Nat → Nat
  | 0 => 0
  | k + 1 => valN s k * 256 + (s.getD k 0).toNat

@[simp] theorem numB_length : ∀ (k n : Nat), (numB n k).length = k
  | 0, _ => rfl
  | k + 1, n => by simp [numB, numB_length k]

theorem valN_congr (s t : List UInt8) : ∀ k, (∀ i, i < k → s.getD i 0 = t.getD i 0) → valN s k = valN t k
  | 0, _ => rfl
  | k + 1, h => by simp only [valN]; rw [valN_congr s t k (fun i hi => h i (by omega)), h k (by omega)]

theorem valN_take (s : List UInt8) (k n : Nat) (h : k ≤ n) : valN (s.take n) k = valN s k :=
  valN_congr _ _ _ fun i hi => by simp [List.getD_eq_getElem?_getD, show i < n by omega]

theorem valN_lt (s : List UInt8) : ∀ k, valN s k < 256 ^ k
  | 0 => by simp [valN]
  | k + 1 => by
    have := valN_lt s k
    have h2 := (s.getD k 0).toNat_lt
    simp only [valN, Nat.pow_succ]
    generalize (s.getD k 0).toNat = b at *
    have : (valN s k + 1) * 256 ≤ 256 ^ k * 256 := Nat.mul_le_mul_right _ (by omega)
    omega

theorem valN_num (t : List UInt8) : ∀ (k n : Nat), n < 256 ^ k → valN (numB n k ++ t) k = n
  | 0, n, h => by simp at h; simp [valN, h]
  | k + 1, n, h => by
    simp only [valN, numB, List.append_assoc]
    rw [valN_num _ k (n / 256) (by rw [Nat.div_lt_iff_lt_mul (by omega)]; rw [Nat.pow_succ] at h; exact h)]
    have : ((numB (n / 256) k ++ ([UInt8.ofNat n] ++ t)).getD k 0) = UInt8.ofNat n := by
      simp [List.getD_eq_getElem?_getD]
    rw [this]
    simp
    omega

theorem numB_val (s : List UInt8) : ∀ k, k ≤ s.length → numB (valN s k) k = s.take k
  | 0, _ => by simp [numB]
  | k + 1, h => by
    have h2 := (s.getD k 0).toNat_lt
    simp only [numB, valN]
    have e1 : (valN s k * 256 + (s.getD k 0).toNat) / 256 = valN s k := by omega
    rw [e1, numB_val s k (by omega), List.take_succ_eq_append_getElem (by omega)]
    have e2 : (s.getD k 0) = s[k] := by simp [List.getD_eq_getElem?_getD, List.getElem?_eq_getElem (show k < s.length by omega)]
    have e3 : UInt8.ofNat (valN s k * 256 + (s.getD k 0).toNat) = s[k] := by
      rw [← e2]
      apply UInt8.toNat_inj.1
      simp
    rw [e3]

/-- A record on the disk. -/
def encR (r : List UInt8) : List UInt8 := numB r.length 4 ++ r
def enc (L : List (List UInt8)) : List UInt8 := L.flatMap encR
@[simp] theorem encR_length (r : List UInt8) : (encR r).length = 4 + r.length := by simp [encR]
theorem enc_snoc (L : List (List UInt8)) (r : List UInt8) : enc (L ++ [r]) = enc L ++ encR r := by simp [enc]
theorem enc_cons (L : List (List UInt8)) (r : List UInt8) : enc (r :: L) = encR r ++ enc L := by simp [enc]
@[simp] theorem enc_nil : enc [] = [] := rfl

/-- The records of the part that counts, each with true; a last one with false where the form is not right. -/
def items (c : List UInt8) (e : Nat) : Nat → Nat → List (List UInt8 × Bool)
  | 0, _ => []
  | k + 1, at_ => if at_ < e then
      (if e < at_ + 4 + valN (c.drop at_) 4 then [([], false)]
       else ((c.drop (at_ + 4)).take (valN (c.drop at_) 4), true) :: items c e k (at_ + 4 + valN (c.drop at_) 4))
    else []

/-- The contents c hold the records L. -/
structure Holds (c : List UInt8) (L : List (List UInt8)) : Prop where
  val : valN c 8 = (enc L).length
  pre : enc L <+: c.drop 64
  le : (enc L).length ≤ 16777216

theorem drop_prefix {a t : List UInt8} {c : List UInt8} {n : Nat} (h : c.drop n = a ++ t) : c.drop (n + a.length) = t := by
  rw [← List.drop_drop, h]; simp

theorem items_enc (c : List UInt8) (e : Nat) : ∀ (L : List (List UInt8)) (at_ k : Nat), enc L <+: c.drop at_ → e = at_ + (enc L).length → L.length ≤ k → (∀ r ∈ L, r.length < 4294967296) → items c e k at_ = L.map (·, true)
  | [], at_, k, _, h2, _, _ => by
    cases k with
    | zero => rfl
    | succ k => simp [items, h2]
  | r :: L, at_, 0, _, _, h3, _ => by simp at h3
  | r :: L, at_, k + 1, h1, h2, h3, h4 => by
    obtain ⟨t, ht⟩ := h1
    rw [enc_cons, List.append_assoc] at ht
    have hv : valN (c.drop at_) 4 = r.length := by
      rw [← ht, encR, List.append_assoc]
      exact valN_num _ 4 _ (by have := h4 r (by simp); simpa using this)
    have hd : c.drop (at_ + 4) = r ++ (enc L ++ t) := by
      have := drop_prefix (a := numB r.length 4) (t := r ++ (enc L ++ t)) (c := c) (n := at_) (by rw [← ht]; simp [encR])
      simpa using this
    have hd2 : c.drop (at_ + 4 + r.length) = enc L ++ t := drop_prefix hd
    rw [enc_cons, List.length_append, encR_length] at h2
    simp only [items, hv]
    rw [if_pos (by omega), if_neg (by omega), items_enc c e L (at_ + 4 + r.length) k ⟨t, hd2.symm⟩ (by omega) (by simpa using h3) (fun r hr => h4 r (by simp [hr])), hd]
    simp

theorem items_all (c : List UInt8) (e : Nat) (he : e ≤ c.length) : ∀ (k at_ : Nat), at_ ≤ e → e < at_ + k → (∀ x ∈ items c e k at_, x.2 = true) →
    enc ((items c e k at_).map (·.1)) <+: c.drop at_ ∧ at_ + (enc ((items c e k at_).map (·.1))).length = e
  | 0, at_, h1, h2, _ => by omega
  | k + 1, at_, h1, h2, h3 => by
    simp only [items] at h3 ⊢
    by_cases h : at_ < e
    · rw [if_pos h] at h3 ⊢
      by_cases hb : e < at_ + 4 + valN (c.drop at_) 4
      · rw [if_pos hb] at h3
        have := h3 ([], false) (by simp)
        simp at this
      · rw [if_neg hb] at h3 ⊢
        obtain ⟨⟨t, ht⟩, i2⟩ := items_all c e he k (at_ + 4 + valN (c.drop at_) 4) (by omega) (by omega) (fun x hx => h3 x (List.mem_cons_of_mem _ hx))
        generalize hv : valN (c.drop at_) 4 = n at *
        have hl : ((c.drop (at_ + 4)).take n).length = n := by simp; omega
        have hn : numB n 4 = (c.drop at_).take 4 := by
          rw [← hv]
          exact numB_val _ 4 (by simp; omega)
        simp only [List.map_cons, enc_cons, List.length_append, encR_length, hl]
        refine ⟨⟨t, ?_⟩, by omega⟩
        rw [List.append_assoc, ht, encR, hl, hn, List.append_assoc]
        rw [← List.drop_drop (i := n), List.take_append_drop, ← List.drop_drop (i := 4), List.take_append_drop]
    · rw [if_neg h]
      simp
      omega

/-- Behind a put: the bytes ahead of it, zeros where there were none. -/
theorem put_getD_before (c : List UInt8) (off : Nat) (s : List UInt8) (i : Nat) (h : i < off) : (put c off s).getD i 0 = c.getD i 0 := by
  unfold put
  simp only [List.getD_eq_getElem?_getD]
  rw [List.getElem?_append_left (by simp; omega), List.getElem?_take, if_pos h]
  by_cases h2 : i < c.length
  · rw [List.getElem?_append_left h2]
  · rw [List.getElem?_append_right (by omega), List.getElem?_replicate, List.getElem?_eq_none (l := c) (by omega)]
    split <;> rfl

theorem put_drop_at (c : List UInt8) (off : Nat) (s : List UInt8) : s <+: (put c off s).drop off := by
  unfold put
  have : ((c ++ List.replicate (off + s.length - c.length) (0 : UInt8)).take off).length = off := by simp; omega
  rw [List.drop_append, this]
  rw [List.drop_of_length_le (by omega)]
  simp

theorem put_take' (c : List UInt8) (off : Nat) (s : List UInt8) (n : Nat) (h1 : n ≤ c.length) (h2 : n ≤ off) : (put c off s).take n = c.take n := by
  unfold put
  rw [List.take_append_of_le_length (by simp; omega), List.take_take, Nat.min_eq_left h2, List.take_append_of_le_length h1]

theorem prefix_drop_put {a c s : List UInt8} {off n : Nat} (h : a <+: c.drop n) (h2 : n + a.length ≤ off) : a <+: (put c off s).drop n := by
  by_cases h0 : a = []
  · subst h0; exact List.nil_prefix
  have hl := h.length_le
  have hp : 0 < a.length := List.length_pos_iff.2 h0
  simp at hl
  have e : (put c off s).take (n + a.length) = c.take (n + a.length) := put_take' c off s _ (by omega) h2
  have e2 : ((put c off s).drop n).take a.length = (c.drop n).take a.length := by
    rw [List.take_drop, List.take_drop, e]
  rw [List.prefix_iff_eq_take] at h ⊢
  rw [e2]
  exact h

/-- A record was written behind those that count: they are the same. -/
theorem Holds.put {c : List UInt8} {L : List (List UInt8)} (h : Holds c L) (off : Nat) (s : List UInt8) (ho : 64 + (enc L).length ≤ off) : Holds (put c off s) L :=
  ⟨by rw [valN_congr _ c 8 (fun i hi => put_getD_before c off s i (by omega))]; exact h.val, prefix_drop_put h.pre ho, h.le⟩

theorem prefix_snoc {a b c : List UInt8} {n : Nat} (h1 : a <+: c.drop n) (h2 : b <+: c.drop (n + a.length)) : a ++ b <+: c.drop n := by
  obtain ⟨t, ht⟩ := h1
  have := drop_prefix ht.symm
  rw [this] at h2
  obtain ⟨u, hu⟩ := h2
  exact ⟨u, by rw [List.append_assoc, hu, ht]⟩

theorem put_behind {c : List UInt8} {L : List (List UInt8)} (h : Holds c L) (r : List UInt8) : enc (L ++ [r]) <+: (put c (64 + (enc L).length) (encR r)).drop 64 := by
  rw [enc_snoc]
  exact prefix_snoc (prefix_drop_put h.pre (Nat.le_refl _)) (put_drop_at c _ _)

/-- The head was written. -/
theorem Holds.head {c : List UInt8} {L : List (List UInt8)} (h : enc L <+: c.drop 64) (hl : (enc L).length ≤ 16777216) : Holds (Go.Proofs.Ytdpebdghhgojaaa.put c 0 (numB (enc L).length 8)) L := by
  refine ⟨?_, ?_, hl⟩
  · obtain ⟨t, ht⟩ := put_drop_at c 0 (numB (enc L).length 8)
    rw [List.drop_zero] at ht
    rw [← ht]
    exact valN_num t 8 _ (by omega)
  · by_cases h0 : enc L = []
    · rw [h0]; exact List.nil_prefix
    have hp : 0 < (enc L).length := List.length_pos_iff.2 h0
    have hle := h.length_le
    simp at hle
    have : (Go.Proofs.Ytdpebdghhgojaaa.put c 0 (numB (enc L).length 8)).drop 64 = c.drop 64 := by
      unfold Go.Proofs.Ytdpebdghhgojaaa.put
      simp only [numB_length, List.take_zero, List.nil_append]
      rw [List.drop_append, List.drop_of_length_le (by simp), numB_length, List.nil_append, List.drop_drop, show 0 + 8 - c.length = 0 by omega]
      simp
    rw [this]; exact h

/-- A disk without unsynced pieces that holds the records L. -/
structure Clean (d : DS) (L : List (List UInt8)) : Prop where
  syn : d.syn = d.now
  pcs : d.pcs = []
  holds : Holds d.now L

theorem Clean.crashed {d : DS} {L : List (List UInt8)} (h : Clean d L) (zs : List Int) : Clean (d.crashed zs) L := by
  have e : crashF zs d.syn 0 d.pcs = d.now := by rw [h.pcs, h.syn]; rfl
  exact ⟨rfl, rfl, by show Holds (crashF zs d.syn 0 d.pcs) L; rw [e]; exact h.holds⟩
theorem Clean.failed {d : DS} {L : List (List UInt8)} (h : Clean d L) (n : Int) : Clean (d.failed n) L := ⟨h.syn, h.pcs, h.holds⟩
theorem Clean.synced {d : DS} {L : List (List UInt8)} (h : Holds d.now L) : Clean d.synced L := ⟨rfl, rfl, h⟩
theorem Clean.of_crash {d : DS} {L : List (List UInt8)} {zs : List Int} (h : Holds (crashF zs d.syn 0 d.pcs) L) : Clean (d.crashed zs) L := ⟨rfl, rfl, h⟩

/-- A power failure while r was being appended: what is there, and what is there behind a crash. -/
structure Torn (d : DS) (L : List (List UInt8)) (r : List UInt8) : Prop where
  now : Holds d.now L ∨ Holds d.now (L ++ [r])
  crash : ∀ zs, Holds (crashF zs d.syn 0 d.pcs) L ∨ Holds (crashF zs d.syn 0 d.pcs) (L ++ [r])

theorem crash_holds (zs : List Int) (L : List (List UInt8)) (off : Nat) (ho : 64 + (enc L).length ≤ off) : ∀ (ps : List (Nat × List UInt8)) (c : List UInt8) (k : Nat), Holds c L → (∀ p ∈ ps, off ≤ p.1) → Holds (crashF zs c k ps) L
  | [], _, _, h, _ => h
  | p :: ps, c, k, h, hp => by
    simp only [crashF]
    refine crash_holds zs L off ho ps _ (k + 1) ?_ (fun q hq => hp q (List.mem_cons_of_mem _ hq))
    have := hp p List.mem_cons_self
    split
    · exact h.put _ _ (by omega)
    · exact h

theorem parts_head (s : List UInt8) (h : s.length = 8) : parts 0 s = [(0, s)] := by
  rw [parts_cons 0 s (by omega), List.take_of_length_le (by omega), List.drop_of_length_le (by omega), parts_nil]

/-- A write and a sync behind it. -/
def DS.step (d : DS) (off : Int) (s : List UInt8) : DS × Int :=
  if d.wrE off s = 0 then ((d.wr off s).sy, (d.wr off s).syE) else (d.wr off s, d.wrE off s)
/-- What Append does on the disk. -/
def DS.app (d : DS) (e : Nat) (r : List UInt8) : DS × Int :=
  if (d.step e (encR r)).2 = 0 then (d.step e (encR r)).1.step 0 (numB (e + 4 + r.length - 64) 8) else d.step e (encR r)

theorem step_cases (d : DS) (off : Nat) (s : List UInt8) (hb : off + s.length ≤ 16777216) :
    (d.off = true ∧ d.step off s = (d, 70)) ∨ (d.off = false ∧ (d.written off s).off = true ∧ d.step off s = (d.written off s, 70)) ∨ (d.off = false ∧ (d.written off s).off = false ∧ d.step off s = ((d.written off s).synced, 0)) := by
  have hn : ¬ badW (off : Int) s := by unfold badW; omega
  by_cases h1 : d.off = true
  · left
    refine ⟨h1, ?_⟩
    have e1 : d.wrE off s = 70 := by unfold DS.wrE; rw [if_neg hn, if_pos h1]
    have e2 : d.wr off s = d := by unfold DS.wr; rw [if_pos (.inr h1)]
    unfold DS.step
    rw [e1, e2, if_neg (by decide)]
  · right
    have h1' : d.off = false := by simpa using h1
    have e1 : d.wrE off s = 0 := by unfold DS.wrE; rw [if_neg hn, if_neg h1]
    have e2 : d.wr off s = d.written off s := by unfold DS.wr; rw [if_neg (by rintro (h | h); exact hn h; exact h1 h)]; rfl
    have e3 : d.step off s = ((d.written off s).sy, (d.written off s).syE) := by unfold DS.step; rw [e1, e2, if_pos rfl]
    by_cases h2 : (d.written off s).off = true
    · left; refine ⟨h1', h2, ?_⟩
      rw [e3]; unfold DS.sy DS.syE; rw [if_pos h2, if_pos h2]
    · right; refine ⟨h1', by simpa using h2, ?_⟩
      rw [e3]; unfold DS.sy DS.syE; rw [if_neg h2, if_neg h2]

/-- The reserve of the records. -/
def bytesOf (L : List (List UInt8)) : Nat := (enc L).length + 12 * L.length
theorem bytesOf_snoc (L : List (List UInt8)) (r : List UInt8) : bytesOf (L ++ [r]) = bytesOf L + r.length + 16 := by
  unfold bytesOf; rw [enc_snoc]; simp; omega

/-- The numbers of calls and of those left, behind n calls that went well. -/
structure Went (d d' : DS) (n : Nat) : Prop where
  fail : d'.fail = d.fail
  calls : d'.calls = d.calls + n
  left : d'.left = if d.fail then d.left - n else d.left

theorem Went.step {d : DS} (off : Nat) (s : List UInt8) : Went d (d.written off s).synced 2 := by
  refine ⟨rfl, rfl, ?_⟩
  show (if d.fail then (if d.fail then d.left - 1 else d.left) - 1 else (if d.fail then d.left - 1 else d.left)) = _
  cases d.fail <;> simp <;> omega
theorem Went.trans {a b c : DS} {m n : Nat} (h : Went a b m) (k : Went b c n) : Went a c (m + n) := by
  refine ⟨k.fail.trans h.fail, by rw [k.calls, h.calls]; omega, ?_⟩
  rw [k.left, h.fail, h.left]
  cases a.fail <;> simp <;> omega

theorem app_cases {d : DS} {L : List (List UInt8)} (h : Clean d L) (r : List UInt8) (hb : bytesOf L + r.length + 272 ≤ 16777216) :
    (∃ d', d.app (64 + (enc L).length) r = (d', 0) ∧ Clean d' (L ++ [r]) ∧ Went d d' 4) ∨
    (∃ d', d.app (64 + (enc L).length) r = (d', 70) ∧ Torn d' L r ∧ d.fail = true ∧ d'.off = true ∧ d'.calls ≤ d.calls + 4) := by
  have hb' : (enc L).length ≤ bytesOf L := by unfold bytesOf; omega
  have hen : 64 + (enc L).length + 4 + r.length - 64 = (enc (L ++ [r])).length := by rw [enc_snoc]; simp; omega
  have hne : (enc (L ++ [r])).length ≤ 16777216 := by omega
  have hoff : ∀ x : DS, x.off = true → x.fail = true := fun x hx => by unfold DS.off at hx; simp at hx; exact hx.1
  rcases step_cases d (64 + (enc L).length) (encR r) (by simp; omega) with ⟨o1, e1⟩ | ⟨o1, o2, e1⟩ | ⟨o1, o2, e1⟩
  · right
    refine ⟨d, by unfold DS.app; rw [e1, if_neg (show ¬ (70 : Int) = 0 by decide)], ⟨.inl h.holds, fun zs => .inl (h.crashed zs).holds⟩, hoff _ o1, o1, by omega⟩
  · right
    refine ⟨_, by unfold DS.app; rw [e1, if_neg (show ¬ (70 : Int) = 0 by decide)], ⟨.inl (h.holds.put _ _ (Nat.le_refl _)), fun zs => .inl ?_⟩, (by have := hoff _ o2; exact this), o2, by show d.calls + 1 ≤ _; omega⟩
    show Holds (crashF zs d.syn 0 (d.pcs ++ parts _ _)) L
    rw [h.pcs, h.syn, List.nil_append]
    exact crash_holds zs L _ (Nat.le_refl _) _ _ 0 h.holds (fun p hp => parts_geJ _ _ _ (Nat.le_refl _) p hp)
  · have hp := put_behind h.holds r
    have h1 := h.holds.put (64 + (enc L).length) (encR r) (Nat.le_refl _)
    have w1 := Went.step (d := d) (64 + (enc L).length) (encR r)
    have c1 : Clean (d.written (64 + (enc L).length) (encR r)).synced L := ⟨rfl, rfl, h1⟩
    have hp1 : enc (L ++ [r]) <+: (d.written (64 + (enc L).length) (encR r)).synced.now.drop 64 := hp
    generalize (d.written (64 + (enc L).length) (encR r)).synced = d1 at *
    have ea : d.app (64 + (enc L).length) r = d1.step (0 : Nat) (numB (enc (L ++ [r])).length 8) := by unfold DS.app; rw [e1, if_pos rfl, hen]; rfl
    have hh := Holds.head hp1 hne
    rcases step_cases d1 0 (numB (enc (L ++ [r])).length 8) (by simp) with ⟨o3, e3⟩ | ⟨o3, o4, e3⟩ | ⟨o3, o4, e3⟩
    · right
      exact ⟨d1, by rw [ea, e3], ⟨.inl c1.holds, fun zs => .inl (c1.crashed zs).holds⟩, by rw [← w1.fail]; exact hoff _ o3, o3, by have := w1.calls; omega⟩
    · right
      refine ⟨_, by rw [ea, e3], ⟨.inr hh, fun zs => ?_⟩, by rw [← w1.fail]; have := hoff _ o4; exact this, o4, by have := w1.calls; show d1.calls + 1 ≤ _; omega⟩
      show Holds (crashF zs d1.syn 0 (d1.pcs ++ parts 0 _)) L ∨ Holds (crashF zs d1.syn 0 (d1.pcs ++ parts 0 _)) _
      rw [c1.pcs, c1.syn, List.nil_append, parts_head _ (by simp)]
      simp only [crashF]
      split
      · exact .inr hh
      · exact .inl c1.holds
    · left
      exact ⟨_, by rw [ea, e3], ⟨rfl, rfl, hh⟩, w1.trans (Went.step 0 _)⟩
end Go.Proofs.Ytdpebdghhgojaaa
