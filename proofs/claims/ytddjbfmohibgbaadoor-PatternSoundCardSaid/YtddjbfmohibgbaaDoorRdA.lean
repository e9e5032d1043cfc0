/- Chapter 05: the reader. -/
import Derived.Test.YtddjbfmohibgbaaDoorEndA
import Derived.Test.YtddjbfmohibgbaaDoorPlainA
import Derived.Deep.RegionHeld3
import Derived.Test.YtddjbfmohibgbaaDoorNumA

/- The reader of a pattern: where it lies, peek, fail. -/
namespace Go.Proofs.YtddjbfmohibgbaaDoor
open Go.RowKit

/-- A reader in the block g: its string, its place. -/
def Rd (w : World) (g : Nat) (s : List UInt8) (k : Nat) : Prop := w.heap[g]? = some (.cells #[.string ⟨s.toArray⟩, .int .i64 (k : Int)] 88 (0, 0))

theorem Rd.cells {w : World} {g : Nat} {s : List UInt8} {k : Nat} (h : Rd w g s k) : w.cell? ⟨g, 0, none⟩ = some (.string ⟨s.toArray⟩) ∧ w.cell? ⟨g, 1, none⟩ = some (.int .i64 (k : Int)) ∧ w.frozen? ⟨g, 1, none⟩ = false := by
  unfold Rd at h
  simp [World.cell?, World.frozen?, h]
theorem Rd.lt {w : World} {g : Nat} {s : List UInt8} {k : Nat} (h : Rd w g s k) : g < w.heap.size := lt_of_heap h
theorem Rd.other {S : Nat → Prop} {w w' : World} {g : Nat} {s : List UInt8} {k : Nat} (h : Rd w g s k) (ho : Only S w w') (hn : ¬ S g) : Rd w' g s k := (ho.block g h.lt hn).trans h
theorem Rd.set {w : World} {g : Nat} {s : List UInt8} {k : Nat} (h : Rd w g s k) (j : Nat) : Rd (w.setCell ⟨g, 1, none⟩ (.int .i64 (j : Int))) g s j := heap_setCell_same w g 1 _ 88 _ h

theorem Only.is_set {g : Nat} {w wr : World} (h : Only (Is g) w wr) (o : Nat) (v : Value) : Only (Is g) w (wr.setCell ⟨g, o, none⟩ v) := h.trans (Only.setCell (S := Is g) _ _ _ rfl) (fun _ _ h => h)
theorem Only.is_nob {g : Nat} {w w1 w2 : World} (h : Only (Is g) w w1) (k : Only Nob w1 w2) : Only (Is g) w w2 := h.trans k (fun _ _ h => h.elim)

theorem byte_at {s : List UInt8} {k : Nat} (h : k < s.length) : peekL s k = s[k] := by unfold peekL; simp [List.getD, List.getElem?_eq_getElem h]
theorem peekL_end {s : List UInt8} {k : Nat} (h : s.length ≤ k) : peekL s k = 0 := by unfold peekL; simp [List.getD, List.getElem?_eq_none h]

set_option maxHeartbeats 1000000 in
theorem peek_any (g : Nat) (s : List UInt8) (k : Nat) (w : World) (hr : Rd w g s k) :
    Calls Tryd.prog 105 #[.pointer (some ⟨g, 0, none⟩)] w fun e w' => e = .returned (.int .u8 (peekL s k).toNat) ∧ Only Nob w w' := by
  obtain ⟨c0, c1, -⟩ := hr.cells
  by_cases h : k < s.length
  · have kk : (k : Int) < (s.length : Int) := by omega
    rw [byte_at h]
    have ix : ∀ w, (Instr.index 9 (.string ⟨s.toArray⟩) (.int .i64 (k : Int))).run Tryd.prog w = .ok (.int .u8 (s[k].toNat : Nat)) w := fun w => by
      exact index_at s k h w
    go_enter Tryd.func105, Tryd.ntmps105
    go_wp2_with fail
    go_region_held3 (fun w' => w'.cell? ⟨g, 0, none⟩ = some (.string ⟨s.toArray⟩) ∧ w'.cell? ⟨g, 1, none⟩ = some (.int .i64 (k : Int))) (exact ⟨c0, c1⟩) (fail)
    go_wp2_with fail
    go_region_held3 (fun w' => w'.cell? ⟨g, 0, none⟩ = some (.string ⟨s.toArray⟩) ∧ w'.cell? ⟨g, 1, none⟩ = some (.int .i64 (k : Int))) (exact ⟨c0, c1⟩) (fail)
    go_wp2
    go_ret
    exact ⟨rfl, (Only.drew Nob _).nob (Only.drew Nob _)⟩
  · rw [peekL_end (by omega)]
    have kk : ¬ (k : Int) < (s.length : Int) := by omega
    go_enter Tryd.func105, Tryd.ntmps105
    go_wp2_with fail
    go_region_held3 (fun w' => w'.cell? ⟨g, 0, none⟩ = some (.string ⟨s.toArray⟩) ∧ w'.cell? ⟨g, 1, none⟩ = some (.int .i64 (k : Int))) (exact ⟨c0, c1⟩) (fail)
    go_wp2
    go_ret
    exact ⟨rfl, (Only.drew Nob _)⟩

/-- A panic with a mistake. -/
def Mis (a e : Nat) : Ending := .panicked [{ v := .iface 84 (.agg #[.int .i64 (a : Int), .int .i64 (e : Int)]), recovered := false }]

theorem fail_any (v : Value) (a e : Nat) (w : World) : Calls Tryd.prog 107 #[v, .int .i64 (a : Int), .int .i64 (e : Int)] w fun en w' => en = .panicked [{ v := .iface 84 (.agg #[.int .i64 (a : Int), .int .i64 (e : Int)]), recovered := false }] ∧ w = w' := by
  have hp : ∀ w, (Instr.panic (.iface 84 (.agg #[.int .i64 (a : Int), .int .i64 (e : Int)]))).run Tryd.prog w = .halt (.panic (.iface 84 (.agg #[.int .i64 (a : Int), .int .i64 (e : Int)]))) w := fun _ => rfl
  go_enter Tryd.func107, Tryd.ntmps107
  go_wp2
  exact ⟨rfl, rfl, rfl⟩

end Go.Proofs.YtddjbfmohibgbaaDoor

/- The reader's number. -/
namespace Go.Proofs.YtddjbfmohibgbaaDoor
open Go.RowKit

/-- What a reading function leaves: a value and the reader's place, or a mistake. -/
def PPost {α : Type} (R : PR (α × Nat)) (V : α → Ending) (g : Nat) (s : List UInt8) (w : World) (e : Ending) (w' : World) : Prop :=
  Only (Is g) w w' ∧ match R with
    | .ok (n, k) => e = V n ∧ Rd w' g s k
    | .error (a, x) => e = Mis a x

theorem PPost.ok {α : Type} {R : PR (α × Nat)} {V : α → Ending} {g : Nat} {s : List UInt8} {w w' : World} {n : α} {k : Nat} {e : Ending} (h : R = .ok (n, k)) (he : e = V n) (ho : Only (Is g) w w') (hr : Rd w' g s k) : PPost R V g s w e w' := by
  subst h; exact ⟨ho, he, hr⟩
theorem PPost.bad {α : Type} {R : PR (α × Nat)} {V : α → Ending} {g : Nat} {s : List UInt8} {w w' : World} {a x : Nat} (h : R = .error (a, x)) (ho : Only (Is g) w w') : PPost R V g s w (Mis a x) w' := by
  subst h; exact ⟨ho, rfl⟩

/-- What the loop knows. -/
def NuRel (w : World) (s : List UInt8) (fr g : Nat) (n c : Value) (wr : World) : Prop :=
  ∃ k m : Nat, n = .int .i64 (m : Int) ∧ c = .int .u8 (peekL s k).toNat ∧ fr ≤ k ∧ k ≤ s.length ∧ m ≤ 201 ∧ numF s fr (s.length - k) k m = numL s fr ∧ Rd wr g s k ∧ Only (Is g) w wr

theorem isD_iff (c : UInt8) : isD c = true ↔ 48 ≤ c.toNat ∧ c.toNat ≤ 57 := by simp [isD]
theorem isD_end {s : List UInt8} {k : Nat} (h : isD (peekL s k) = true) : k < s.length := peekL_some (fun e => by rw [e] at h; exact absurd h (by decide))

/-- One step of the reading. -/
theorem numF_dig {s : List UInt8} {fr k n : Nat} (h : isD (peekL s k) = true) : numF s fr (s.length - k) k n = if k = fr + 1 ∧ (peekL s fr).toNat = 48 then .error (k, 12) else numF s fr (s.length - (k + 1)) (k + 1) (min (10 * n + ((peekL s k).toNat - 48)) 201) := by
  have hk := isD_end h
  rw [show s.length - k = (s.length - (k + 1)) + 1 by omega, numF, if_pos h]
theorem numF_end {s : List UInt8} {fr k n : Nat} (h : isD (peekL s k) = false) : numF s fr (s.length - k) k n = if k = fr then .error (k, 12) else .ok (n, k) := by
  cases he : s.length - k with
  | zero => rw [numF]
  | succ f => rw [numF, if_neg (by simp [h])]

set_option maxRecDepth 100000 in
set_option maxHeartbeats 2000000 in
theorem number_any (g : Nat) (s : List UInt8) (fr : Nat) (w : World) (hr : Rd w g s fr) (hf : fr ≤ s.length) (hs : s.length ≤ 1000) :
    Calls Tryd.prog 136 #[.pointer (some ⟨g, 0, none⟩)] w (PPost (numL s fr) (fun n => .returned (.int .i64 (n : Int))) g s w) := by
  obtain ⟨c0, c1, cf⟩ := hr.cells
  go_enter Tryd.func136, Tryd.ntmps136
  go_wp2_with fail
  refine (peek_any g s fr w hr).mono ?_
  rintro e w1 ⟨rfl, o1⟩
  have HB : Hid (NuRel w s fr g (.int .i64 (0 : Nat)) (.int .u8 (peekL s fr).toNat) w1) := ⟨fr, 0, rfl, rfl, Nat.le_refl _, hf, Nat.zero_le _, rfl, hr.other o1 (fun h => h), o1.mono (fun _ _ h => h.elim)⟩
  clear c0 c1 cf hr o1
  go_wp2_with fail
  go_loopw [4, 5] (fun n c wr => NuRel w s fr g n c wr) (fun _ _ wr => s.length - (intOf ((wr.cell? ⟨g, 1, none⟩).getD undef)).toNat)
  case atStart => exact HB.out
  case round =>
    obtain ⟨k, m, rfl, rfl, hfk, hk, hm, hn, hrd, hon⟩ := hrel
    clear HB
    obtain ⟨c0, c1, cf⟩ := hrd.cells
    have HN := Lib.hid hn
    have hc := (peekL s k).toNat_lt
    have hsub : IntKind.i64.wrap ((k : Int) + 1) = (k : Int) + 1 := IntWalk.i64_in _ (by omega)
    have hfr1 : IntKind.i64.wrap ((fr : Int) + 1) = (fr : Int) + 1 := IntWalk.i64_in _ (by omega)
    cases hd : isD (peekL s k)
    · have hnd : ¬ (48 ≤ (peekL s k).toNat ∧ (peekL s k).toNat ≤ 57) := by rw [← isD_iff, hd]; simp
      rw [numF_end hd] at HN
      clear hd hn
      generalize (peekL s k).toNat = cN at hc hnd
      have HO := Lib.hid hon
      have HR := Lib.hid hrd
      clear hon hrd
      by_cases h1 : 48 ≤ cN
      all_goals
        by_cases h3 : k = fr
        · subst h3
          rw [if_pos rfl] at HN
          go_wp2_with fail
          refine (fail_any _ k 12 _).mono ?_
          rintro e w2 ⟨rfl, rfl⟩
          exact ⟨rfl, PPost.bad HN.out.symm HO.out⟩
        · rw [if_neg h3] at HN
          have h3' : ¬ (k : Int) = (fr : Int) := by omega
          go_wp2_with fail
          go_ret
          exact PPost.ok HN.out.symm rfl HO.out HR.out
    · have hdd := (isD_iff _).1 hd
      have hlt := isD_end hd
      rw [numF_dig hd] at HN
      have PK := Lib.hid (fun wx (h : Rd wx g s (k + 1)) => peek_any g s (k + 1) wx h)
      have HO := Lib.hid hon
      have HR := Lib.hid hrd
      have HS := Lib.hid (hrd.set (k + 1))
      have ix := fun w => index_at s fr (by omega) w
      have hz := (peekL s fr).toNat_lt
      have hpf : peekL s fr = s[fr]'(by omega) := byte_at (by omega)
      rw [← hpf] at ix
      clear hd hn hpf hon hrd
      generalize (peekL s fr).toNat = zN at hz HN ix
      generalize (peekL s k).toNat = cN at hc hdd HN
      have d1 := hdd.1
      have d2 := hdd.2
      clear hdd
      by_cases h3 : k = fr + 1
      · have h3' : ((k : Int) == (fr : Int) + 1) = true := by simp; omega
        by_cases h4 : zN = 48
        · rw [if_pos ⟨h3, h4⟩] at HN
          clear h3
          go_wp2_with fail
          refine (fail_any _ k 12 _).mono ?_
          rintro e w2 ⟨rfl, rfl⟩
          exact ⟨rfl, PPost.bad HN.out.symm HO.out⟩
        · rw [if_neg (fun h => h4 h.2)] at HN
          clear h3
          go_wp2_with fail
          refine (PK.out _ HS.out).mono ?_
          rintro e w3 ⟨rfl, o3⟩
          go_wp2_with fail
          go_roundw
          case rel => exact ⟨k + 1, min (10 * m + (cN - 48)) 201, congrArg (Value.int .i64) (by omega), rfl, by omega, hlt, by omega, HN.out, HS.out.other o3 (fun h => h), (HO.out.is_set 1 _).is_nob o3⟩
          case measure => rw [(HS.out.other o3 (fun h => h)).cells.2.1, HR.out.cells.2.1]; simp [intOf]; omega
      · have h3' : ¬ (k : Int) = (fr : Int) + 1 := by omega
        rw [if_neg (fun h => h3 h.1)] at HN
        go_wp2_with fail
        refine (PK.out _ HS.out).mono ?_
        rintro e w3 ⟨rfl, o3⟩
        go_wp2_with fail
        go_roundw
        case rel => exact ⟨k + 1, min (10 * m + (cN - 48)) 201, congrArg (Value.int .i64) (by omega), rfl, by omega, hlt, by omega, HN.out, HS.out.other o3 (fun h => h), (HO.out.is_set 1 _).is_nob o3⟩
        case measure => rw [(HS.out.other o3 (fun h => h)).cells.2.1, HR.out.cells.2.1]; simp [intOf]; omega

end Go.Proofs.YtddjbfmohibgbaaDoor

/- The reader's counts: in braces, and behind a class's letter. -/
namespace Go.Proofs.YtddjbfmohibgbaaDoor
open Go.RowKit

def twoI (p : Nat × Nat) : Ending := .returned (.tuple #[.int .i64 (p.1 : Int), .int .i64 (p.2 : Int)])

theorem brc_err {s : List UInt8} {op : Nat} {e : Nat × Nat} (h : numL s (op + 1) = .error e) : bracesL s op = .error e := by unfold bracesL; rw [h]
theorem brc_two {s : List UInt8} {op n k : Nat} (h : numL s (op + 1) = .ok (n, k)) (hc : (peekL s k).toNat = 44) : bracesL s op = match numL s (k + 1) with | .error e => .error e | .ok (m, k2) => endB s op n m k2 := by
  unfold bracesL; rw [h]; simp only [if_pos hc]; rfl
theorem brc_one {s : List UInt8} {op n k : Nat} (h : numL s (op + 1) = .ok (n, k)) (hc : ¬ (peekL s k).toNat = 44) : bracesL s op = endB s op n n k := by
  unfold bracesL; rw [h]; simp only [if_neg hc]

set_option maxRecDepth 100000 in
set_option maxHeartbeats 4000000 in
theorem braces_any (g : Nat) (s : List UInt8) (op : Nat) (w : World) (hr : Rd w g s op) (hf : op < s.length) (hs : s.length ≤ 1000) :
    Calls Tryd.prog 129 #[.pointer (some ⟨g, 0, none⟩)] w (PPost (bracesL s op) twoI g s w) := by
  obtain ⟨c0, c1, cf⟩ := hr.cells
  have HS := Lib.hid (hr.set (op + 1))
  have PK := Lib.hid (peek_any g s)
  have NU := Lib.hid (number_any g s (op + 1) (w.setCell ⟨g, 1, none⟩ (.int .i64 ((op + 1 : Nat) : Int))) HS.out hf hs)
  have HO : Hid (Only (Is g) w (w.setCell ⟨g, 1, none⟩ (.int .i64 ((op + 1 : Nat) : Int)))) := (Only.refl _ _).is_set 1 _
  unfold twoI
  go_enter Tryd.func129, Tryd.ntmps129
  go_wp2_with fail
  refine NU.out.mono ?_
  clear hr c0 c1 cf HS NU
  cases hN : numL s (op + 1) with
  | error ae =>
    obtain ⟨a, ae⟩ := ae
    rintro e w1 ⟨o1, rfl⟩
    exact ⟨rfl, PPost.bad (brc_err hN) (HO.out.trans o1 (fun _ _ h => h))⟩
  | ok nk =>
    obtain ⟨n, k⟩ := nk
    rintro e w1 ⟨o1, rfl, r1⟩
    obtain ⟨hk1, hk2, hn2⟩ := numL_ok hf hN
    have HO1 := Lib.hid (HO.out.trans o1 (fun _ _ h => h))
    have HR1 := Lib.hid r1
    have H2 := Lib.hid (brc_two hN)
    have H1 := Lib.hid (brc_one hN)
    clear o1 r1 HO hN
    go_wp2_with fail
    refine (PK.out k _ HR1.out).mono ?_
    rintro e w2 ⟨rfl, o2⟩
    have HO2 := Lib.hid (HO1.out.is_nob o2)
    have HR2 := Lib.hid (HR1.out.other o2 (fun h => h))
    have hc8 := (peekL s k).toNat_lt
    clear o2 HO1 HR1
    by_cases hc : (peekL s k).toNat = 44
    · have h1 := H2.out hc
      have hkl : k < s.length := peekL_some (fun e => by rw [e] at hc; exact absurd hc (by decide))
      clear H2 H1
      obtain ⟨c0, c1, cf⟩ := HR2.out.cells
      have NU := Lib.hid (number_any g s (k + 1) (w2.setCell ⟨g, 1, none⟩ (.int .i64 ((k + 1 : Nat) : Int))) (HR2.out.set (k + 1)) hkl hs)
      have HO3 := Lib.hid (HO2.out.is_set 1 (.int .i64 ((k + 1 : Nat) : Int)))
      have HE := Lib.hid h1
      clear h1 hc8
      generalize (peekL s k).toNat = cN at hc
      subst hc
      go_wp2_with fail
      refine NU.out.mono ?_
      clear c0 c1 cf NU
      cases hN : numL s (k + 1) with
      | error ae =>
        obtain ⟨a, ae⟩ := ae
        rintro e w1 ⟨o1, rfl⟩
        exact ⟨rfl, PPost.bad (by rw [HE.out, hN]) (HO3.out.trans o1 (fun _ _ h => h))⟩
      | ok nk =>
        obtain ⟨m, k2⟩ := nk
        rintro e w3 ⟨o1, rfl, r1⟩
        obtain ⟨hk3, hk4, hn4⟩ := numL_ok hkl hN
        rw [hN] at HE
        simp only at HE
        have HO4 := Lib.hid (HO3.out.trans o1 (fun _ _ h => h))
        have HR4 := Lib.hid r1
        clear HO3 r1 o1 hN
        go_wp2_with fail
        refine (PK.out k2 _ HR4.out).mono ?_
        rintro e w5 ⟨rfl, o5⟩
        have HO5 := Lib.hid (HO4.out.is_nob o5)
        have hr5 := HR4.out.other o5 (fun h => h)
        obtain ⟨c0, c1, cf⟩ := hr5.cells
        have HS5 := Lib.hid (hr5.set (k2 + 1))
        unfold endB at HE
        have hd8 := (peekL s k2).toNat_lt
        clear o5 hr5
        generalize (peekL s k2).toNat = dN at HE hd8
        by_cases hd : dN = 125
        · subst hd
          rw [if_pos rfl] at HE
          by_cases x1 : n > m
          · rw [if_pos (by omega)] at HE
            have x1' : (n : Int) > (m : Int) := by omega
            go_wp2_with fail
            refine (fail_any _ op 3 _).mono ?_
            rintro e w6 ⟨rfl, rfl⟩
            exact ⟨rfl, PPost.bad HE.out (HO5.out.is_set 1 _)⟩
          have x1' : ¬ (n : Int) > (m : Int) := by omega
          by_cases x2 : m < 1
          · rw [if_pos (by omega)] at HE
            have x2' : (m : Int) < 1 := by omega
            go_wp2_with fail
            refine (fail_any _ op 3 _).mono ?_
            rintro e w6 ⟨rfl, rfl⟩
            exact ⟨rfl, PPost.bad HE.out (HO5.out.is_set 1 _)⟩
          have x2' : ¬ (m : Int) < 1 := by omega
          by_cases x3 : m > 200
          · rw [if_pos (by omega)] at HE
            have x3' : (m : Int) > 200 := by omega
            go_wp2_with fail
            refine (fail_any _ op 3 _).mono ?_
            rintro e w6 ⟨rfl, rfl⟩
            exact ⟨rfl, PPost.bad HE.out (HO5.out.is_set 1 _)⟩
          have x3' : ¬ (m : Int) > 200 := by omega
          rw [if_neg (by omega)] at HE
          go_wp2_with fail
          go_ret2
          exact PPost.ok HE.out rfl (HO5.out.is_set 1 _) HS5.out
        · rw [if_neg hd] at HE
          have hd' : ¬ (dN : Int) = 125 := by omega
          go_wp2_with fail
          refine (fail_any _ k2 12 _).mono ?_
          rintro e w6 ⟨rfl, rfl⟩
          exact ⟨rfl, PPost.bad HE.out HO5.out⟩
    · have h1 := H1.out hc
      have HE := Lib.hid h1
      clear H2 H1 h1
      generalize (peekL s k).toNat = cN at hc hc8
      have hc' : ¬ (cN : Int) = 44 := by omega
      go_wp2_with fail
      refine (PK.out k _ HR2.out).mono ?_
      rintro e w5 ⟨rfl, o5⟩
      have HO5 := Lib.hid (HO2.out.is_nob o5)
      have hr5 := HR2.out.other o5 (fun h => h)
      obtain ⟨c0, c1, cf⟩ := hr5.cells
      have HS5 := Lib.hid (hr5.set (k + 1))
      unfold endB at HE
      have hd8 := (peekL s k).toNat_lt
      clear o5 hr5
      generalize (peekL s k).toNat = dN at HE hd8
      by_cases hd : dN = 125
      · subst hd
        rw [if_pos rfl] at HE
        by_cases x2 : n < 1
        · rw [if_pos (by omega)] at HE
          have x2' : (n : Int) < 1 := by omega
          go_wp2_with fail
          refine (fail_any _ op 3 _).mono ?_
          rintro e w6 ⟨rfl, rfl⟩
          exact ⟨rfl, PPost.bad HE.out (HO5.out.is_set 1 _)⟩
        have x2' : ¬ (n : Int) < 1 := by omega
        by_cases x3 : n > 200
        · rw [if_pos (by omega)] at HE
          have x3' : (n : Int) > 200 := by omega
          go_wp2_with fail
          refine (fail_any _ op 3 _).mono ?_
          rintro e w6 ⟨rfl, rfl⟩
          exact ⟨rfl, PPost.bad HE.out (HO5.out.is_set 1 _)⟩
        have x3' : ¬ (n : Int) > 200 := by omega
        rw [if_neg (by omega)] at HE
        go_wp2_with fail
        go_ret2
        exact PPost.ok HE.out rfl (HO5.out.is_set 1 _) HS5.out
      · rw [if_neg hd] at HE
        have hd' : ¬ (dN : Int) = 125 := by omega
        go_wp2_with fail
        refine (fail_any _ k 12 _).mono ?_
        rintro e w6 ⟨rfl, rfl⟩
        exact ⟨rfl, PPost.bad HE.out HO5.out⟩

end Go.Proofs.YtddjbfmohibgbaaDoor

/- The reader's run: a class with its counts. -/
namespace Go.Proofs.YtddjbfmohibgbaaDoor
open Go.RowKit

def runV (c : Int) (p : Nat × Nat) : Ending := .returned (pcV ⟨c, p.1, p.2, []⟩)

/-- The world in which the run's two boxes lie. -/
def runW (w : World) (c : Int) : World := (w.alloc (.cells #[.int .i64 0, .int .i64 0, .int .i64 0, .string ⟨#[]⟩] 31)).alloc (.cells #[.int .i64 c, .int .i64 1, .int .i64 1, .string ⟨#[]⟩] 31)

theorem runW_at (w : World) (c : Int) : PcRow (runW w c) w.heap.size ⟨0, 0, 0, []⟩ ∧ PcRow (runW w c) (w.heap.size + 1) ⟨c, 1, 1, []⟩ ∧ Only Nob w (runW w c) := by
  unfold runW PcRow
  refine ⟨?_, ?_, (Only.alloc _ _ _).nob (Only.alloc _ _ _)⟩
  · rw [Below.heap_alloc _ _ _ (by simp), heap_alloc_new]
  · have h := heap_alloc_new (w.alloc (.cells #[.int .i64 0, .int .i64 0, .int .i64 0, .string ⟨#[]⟩] 31)) (.cells #[.int .i64 c, .int .i64 1, .int .i64 1, .string ⟨#[]⟩] 31)
    simpa using h

theorem cnt_plus {s : List UInt8} {k : Nat} (h : (peekL s k).toNat = 43) : cntL s k = .ok ((1, 200), k + 1) := by unfold cntL; rw [if_pos h]
theorem cnt_star {s : List UInt8} {k : Nat} (h : (peekL s k).toNat = 42) : cntL s k = .ok ((0, 200), k + 1) := by unfold cntL; rw [if_neg (by omega), if_pos h]
theorem cnt_brc {s : List UInt8} {k : Nat} (h : (peekL s k).toNat = 123) : cntL s k = bracesL s k := by unfold cntL; rw [if_neg (by omega), if_neg (by omega), if_pos h]
theorem cnt_one {s : List UInt8} {k : Nat} (h1 : ¬ (peekL s k).toNat = 43) (h2 : ¬ (peekL s k).toNat = 42) (h3 : ¬ (peekL s k).toNat = 123) : cntL s k = .ok ((1, 1), k) := by unfold cntL; rw [if_neg h1, if_neg h2, if_neg h3]

theorem PcRow.set4 {w : World} {b : Nat} {z : Pc} (h : PcRow w b z) (c l m : Int) (t : List UInt8) :
    PcRow ((((w.setCell ⟨b, 0, none⟩ (.int .i64 c)).setCell ⟨b, 1, none⟩ (.int .i64 l)).setCell ⟨b, 2, none⟩ (.int .i64 m)).setCell ⟨b, 3, none⟩ (.string ⟨t.toArray⟩)) b ⟨c, l, m, t⟩ :=
  heap_setCell_same _ b 3 _ 31 _ (heap_setCell_same _ b 2 _ 31 _ (heap_setCell_same _ b 1 _ 31 _ (heap_setCell_same _ b 0 _ 31 _ h)))

theorem res106 (tmps : Array Value) (w : World) (b : Nat) (x : Pc) (ht : tmps.getD 4 undef = .pointer (some ⟨b, 0, none⟩)) (h : PcRow w b x) : (results Tryd.f106 tmps).run Tryd.prog w = .ok (.agg #[.int .i64 x.c, .int .i64 x.l, .int .i64 x.m, .string ⟨x.t.toArray⟩]) w := by
  obtain ⟨⟨c0, c1, c2, c3⟩, -⟩ := h.cells
  simp only [results, show Tryd.f106.results = #[.cell 4 31] from rfl]
  simp only [Nat.zero_add] at c1 c2 c3
  have ht2 : tmps[4]?.getD undef = .pointer (some ⟨b, 0, none⟩) := by simpa using ht
  simp [go_sem, ht2, c0, c1, c2, c3]

theorem Only.put {S : Nat → Prop} {w w' : World} (h : Only S w w') (b o : Nat) (v : Value) (hb : S b) : Only S w (w'.setCell ⟨b, o, none⟩ v) := h.trans (Only.setCell (S := S) _ _ _ hb) (fun _ _ h => h)
theorem Only.also {S : Nat → Prop} {w w1 w2 : World} (h : Only S w w1) (k : Only Nob w1 w2) : Only S w w2 := h.trans k (fun _ _ h => h.elim)

/-- Two new blocks besides. -/
def Run (g n : Nat) : Nat → Prop := fun i => i = g ∨ n ≤ i
/-- All but one block. -/
def Oth (n : Nat) : Nat → Prop := fun i => i ≠ n
theorem only_run {g : Nat} {w w' : World} (h : Only (Run g w.heap.size) w w') : Only (Is g) w w' := h.mono fun i hi h => by
  rcases h with h | h
  · exact h
  · exact absurd hi (by omega)

set_option maxRecDepth 100000 in
set_option maxHeartbeats 4000000 in
theorem run_any (g : Nat) (s : List UInt8) (k : Nat) (c : Int) (w : World) (hr : Rd w g s k) (hf : k ≤ s.length) (hs : s.length ≤ 1000) :
    Calls Tryd.prog 106 #[.pointer (some ⟨g, 0, none⟩), .int .i64 c] w (PPost (cntL s k) (runV c) g s w) := by
  obtain ⟨z0, x0, oW⟩ := runW_at w c
  have hrW := hr.other oW (fun h => h)
  have PK := Lib.hid (peek_any g s k (runW w c) hrW)
  unfold runV pcV SV
  have hgb : g < w.heap.size := hr.lt
  go_enter Tryd.func106, Tryd.ntmps106
  go_wp2_with fail
  refine PK.out.mono ?_
  rintro e w2 ⟨rfl, o2⟩
  have z2 := z0.other o2 (fun h => h)
  have x2 := x0.other o2 (fun h => h)
  have r2 := hrW.other o2 (fun h => h)
  have O2 : Hid (Only (Run g w.heap.size) w w2) := (oW.nob o2).mono (fun _ _ h => h.elim)
  clear PK hr hrW z0 x0 oW o2
  have Z := Lib.hid (fun (w' : World) (o : Only (Oth w.heap.size) w2 w') => z2.other o (fun h => h rfl))
  have X := Lib.hid (fun (w' : World) (o : Only (Is g) w2 w') => x2.other o (fun h => by have : w.heap.size + 1 = g := h; omega))
  obtain ⟨⟨z00, z01, z02, z03⟩, zf0, zf1, zf2, zf3⟩ := z2.cells
  obtain ⟨⟨x00, x01, x02, x03⟩, xf0, xf1, xf2, xf3⟩ := x2.cells
  obtain ⟨c0, c1, cf⟩ := r2.cells
  have HB := Lib.hid (fun h => braces_any g s k w2 r2 h hs)
  have HS := Lib.hid (r2.set (k + 1))
  have R2 := Lib.hid r2
  have C1 := Lib.hid (@cnt_plus s k)
  have C2 := Lib.hid (@cnt_star s k)
  have C3 := Lib.hid (@cnt_brc s k)
  have C4 := Lib.hid (@cnt_one s k)
  have hk0 := Lib.hid (fun h => peekL_some (s := s) (k := k) h)
  have hc8 := (peekL s k).toNat_lt
  clear r2 z2 x2
  obtain ⟨cN, hcN⟩ : ∃ cN, cN = (peekL s k).toNat := ⟨_, rfl⟩
  have hk1 := Lib.hid hcN.symm
  rw [← hcN] at hc8 C1 C2 C3 C4 ⊢
  clear hcN
  have g1 : Oth w.heap.size g := by unfold Oth; omega
  have g2 : Oth w.heap.size (w.heap.size + 1) := by unfold Oth; omega
  have g3 : Run g w.heap.size w.heap.size := .inr (by omega)
  have g4 : Run g w.heap.size (w.heap.size + 1) := .inr (by omega)
  have g5 : Run g w.heap.size g := .inl rfl
  have G := Lib.hid (And.intro g1 (And.intro g2 (And.intro g3 (And.intro g4 g5))))
  clear g1 g2 g3 g4 g5
  by_cases h1 : cN = 43
  · subst h1
    have HE := Lib.hid (C1.out rfl)
    go_wp2_with fail
    obtain ⟨g1, g2, g3, g4, g5⟩ := G.out
    refine bodyPost_ret (res106 _ _ w.heap.size ⟨c, 1, 200, []⟩ rfl ((Z.out _ (((Only.refl _ _).put _ _ _ g1).put _ _ _ g2)).set4 _ _ _ [])) rfl ?_
    refine PPost.ok HE.out rfl (only_run ((((((O2.out.put _ _ _ g5).put _ _ _ g4).put _ _ _ g3).put _ _ _ g3).put _ _ _ g3).put _ _ _ g3)) ?_
    exact HS.out.other (S := Oth g) ((((((Only.refl _ _).put _ _ _ (by unfold Oth; omega)).put _ _ _ (by unfold Oth; omega)).put _ _ _ (by unfold Oth; omega)).put _ _ _ (by unfold Oth; omega)).put _ _ _ (by unfold Oth; omega)) (fun h => h rfl)
  have h1' : ¬ (cN : Int) = 43 := by omega
  by_cases h2 : cN = 42
  · subst h2
    have HE := Lib.hid (C2.out rfl)
    go_wp2_with fail
    obtain ⟨g1, g2, g3, g4, g5⟩ := G.out
    refine bodyPost_ret (res106 _ _ w.heap.size ⟨c, 0, 200, []⟩ rfl ((Z.out _ ((((Only.refl _ _).put _ _ _ g1).put _ _ _ g2).put _ _ _ g2)).set4 _ _ _ [])) rfl ?_
    refine PPost.ok HE.out rfl (only_run (((((((O2.out.put _ _ _ g5).put _ _ _ g4).put _ _ _ g4).put _ _ _ g3).put _ _ _ g3).put _ _ _ g3).put _ _ _ g3)) ?_
    exact HS.out.other (S := Oth g) (((((((Only.refl _ _).put _ _ _ (by unfold Oth; omega)).put _ _ _ (by unfold Oth; omega)).put _ _ _ (by unfold Oth; omega)).put _ _ _ (by unfold Oth; omega)).put _ _ _ (by unfold Oth; omega)).put _ _ _ (by unfold Oth; omega)) (fun h => h rfl)
  have h2' : ¬ (cN : Int) = 42 := by omega
  by_cases h3 : cN = 123
  · subst h3
    have HE := Lib.hid (C3.out rfl)
    have hb := HB.out (hk0.out (fun e => by have := hk1.out; rw [e] at this; exact absurd this (by decide)))
    clear HB
    unfold twoI at hb
    have HBB := Lib.hid hb
    clear hb
    go_wp2_with fail
    refine HBB.out.mono ?_
    clear HBB c0 c1 cf x00 x01 x02 x03 xf0 xf1 xf2 xf3 z00 z01 z02 z03 zf0 zf1 zf2 zf3
    cases hN : bracesL s k with
    | error ae =>
      obtain ⟨a, ae⟩ := ae
      rintro e w3 ⟨o3, rfl⟩
      exact ⟨rfl, PPost.bad (HE.out.trans hN) (only_run (O2.out.trans o3 (fun i _ h => .inl h)))⟩
    | ok nk =>
      obtain ⟨⟨l, m⟩, k3⟩ := nk
      rintro e w3 ⟨o3, rfl, r3⟩
      have z3 := Z.out w3 (o3.mono (fun i _ h => by have : i = g := h; unfold Oth; omega))
      obtain ⟨⟨x00, x01, x02, x03⟩, xf0, xf1, xf2, xf3⟩ := (X.out w3 o3).cells
      obtain ⟨⟨z00, z01, z02, z03⟩, zf0, zf1, zf2, zf3⟩ := z3.cells
      have O3 := Lib.hid (O2.out.trans o3 (fun i _ h => .inl h))
      have R3 := Lib.hid r3
      have Z3 := Lib.hid (fun (w' : World) (o : Only (Oth w.heap.size) w3 w') => z3.other o (fun h => h rfl))
      rw [hN] at HE
      clear r3 o3 hN z3
      go_wp2_with fail
      obtain ⟨g1, g2, g3, g4, g5⟩ := G.out
      refine bodyPost_ret (res106 _ _ w.heap.size ⟨c, l, m, []⟩ rfl ((Z3.out _ (((Only.refl _ _).put _ _ _ g2).put _ _ _ g2)).set4 _ _ _ [])) rfl ?_
      refine PPost.ok HE.out rfl (only_run ((((((O3.out.put _ _ _ g4).put _ _ _ g4).put _ _ _ g3).put _ _ _ g3).put _ _ _ g3).put _ _ _ g3)) ?_
      exact R3.out.other (S := Oth g) (((((((Only.refl _ _).put _ _ _ (by unfold Oth; omega)).put _ _ _ (by unfold Oth; omega)).put _ _ _ (by unfold Oth; omega)).put _ _ _ (by unfold Oth; omega)).put _ _ _ (by unfold Oth; omega)).put _ _ _ (by unfold Oth; omega)) (fun h => h rfl)
  clear hk1
  have h3' : ¬ (cN : Int) = 123 := by omega
  have HE := Lib.hid (C4.out h1 h2 h3)
  go_wp2_with fail
  obtain ⟨g1, g2, g3, g4, g5⟩ := G.out
  refine bodyPost_ret (res106 _ _ w.heap.size ⟨c, 1, 1, []⟩ rfl ((Z.out _ (Only.refl _ _)).set4 _ _ _ [])) rfl ?_
  refine PPost.ok HE.out rfl (only_run ((((O2.out.put _ _ _ g3).put _ _ _ g3).put _ _ _ g3).put _ _ _ g3)) ?_
  exact R2.out.other (S := Oth g) (((((Only.refl _ _).put _ _ _ (by unfold Oth; omega)).put _ _ _ (by unfold Oth; omega)).put _ _ _ (by unfold Oth; omega)).put _ _ _ (by unfold Oth; omega)) (fun h => h rfl)

end Go.Proofs.YtddjbfmohibgbaaDoor
