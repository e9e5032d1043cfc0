/- The reader's number. -/
import Derived.Test.YtddjbfmohibgbaaDoorRd
namespace Go.Proofs.YtddjbfmohibgbaaDoor
open Go.RowKit

/-- What a reading function leaves: a value and the reader's place, or a mistake. -/
def PPost {α : Type} (R : PR (α × Nat)) (V : α → Ending) (g : Nat) (s : List UInt8) (w : World) (e : Ending) (w' : World) : Prop :=
  Only (Is g) w w' ∧ match R with
    | .ok (n, k) => e = V n ∧ Rd w' g s k
    | .error (a, x) => e = Mis a x

theorem PPost.ok {α : Type} {R : PR (α × Nat)} {V : α → Ending} {g : Nat} {s : List UInt8} {w w' : World} {n : α} {k : Nat} {e : Ending} (h : R = .ok (n, k)) (he : e = V n) (ho : Only (Is g) w w') (hr : Rd w' g s k) : PPost R V g s w e w' := by
  subst h; exact ⟨ho, he, hr⟩
theorem PPost.bad {α : Type} {R : PR (α × Nat)} {V : α → Ending} {g : Nat} {s : List UInt8} {w w' : World} {a x : Nat} (h : R = .error (a, x)) (ho : Only (Is g) w w') : PPost R V g s w (Mis a x) w' := by
  subst h; exact ⟨ho, rfl⟩

/-- What the loop knows. -/
def NuRel (w : World) (s : List UInt8) (fr g : Nat) (n c : Value) (wr : World) : Prop :=
  ∃ k m : Nat, n = .int .i64 (m : Int) ∧ c = .int .u8 (peekL s k).toNat ∧ fr ≤ k ∧ k ≤ s.length ∧ m ≤ 201 ∧ numF s fr (s.length - k) k m = numL s fr ∧ Rd wr g s k ∧ Only (Is g) w wr

theorem isD_iff (c : UInt8) : isD c = true ↔ 48 ≤ c.toNat ∧ c.toNat ≤ 57 := by simp [isD]
theorem isD_end {s : List UInt8} {k : Nat} (h : isD (peekL s k) = true) : k < s.length := peekL_some (fun e => by rw [e] at h; exact absurd h (by decide))

/-- One step of the reading. -/
theorem numF_dig {s : List UInt8} {fr k n : Nat} (h : isD (peekL s k) = true) : numF s fr (s.length - k) k n = if k = fr + 1 ∧ (peekL s fr).toNat = 48 then .error (k, 12) else numF s fr (s.length - (k + 1)) (k + 1) (min (10 * n + ((peekL s k).toNat - 48)) 201) := by
  have hk := isD_end h
  rw [show s.length - k = (s.length - (k + 1)) + 1 by omega, numF, if_pos h]
theorem numF_end {s : List UInt8} {fr k n : Nat} (h : isD (peekL s k) = false) : numF s fr (s.length - k) k n = if k = fr then .error (k, 12) else .ok (n, k) := by
  cases he : s.length - k with
  | zero => rw [numF]
  | succ f => rw [numF, if_neg (by simp [h])]

set_option maxRecDepth 100000 in
set_option maxHeartbeats 2000000 in
theorem number_any (g : Nat) (s : List UInt8) (fr : Nat) (w : World) (hr : Rd w g s fr) (hf : fr ≤ s.length) (hs : s.length ≤ 1000) :
    Calls Tryd.prog 136 #[.pointer (some ⟨g, 0, none⟩)] w (PPost (numL s fr) (fun n => .returned (.int .i64 (n : Int))) g s w) := by
  obtain ⟨c0, c1, cf⟩ := hr.cells
  go_enter Tryd.func136, Tryd.ntmps136
  go_wp2_with fail
  refine (peek_any g s fr w hr).mono ?_
  rintro e w1 ⟨rfl, o1⟩
  have HB : Hid (NuRel w s fr g (.int .i64 (0 : Nat)) (.int .u8 (peekL s fr).toNat) w1) := ⟨fr, 0, rfl, rfl, Nat.le_refl _, hf, Nat.zero_le _, rfl, hr.other o1 (fun h => h), o1.mono (fun _ _ h => h.elim)⟩
  clear c0 c1 cf hr o1
  go_wp2_with fail
  go_loopw [4, 5] (fun n c wr => NuRel w s fr g n c wr) (fun _ _ wr => s.length - (intOf ((wr.cell? ⟨g, 1, none⟩).getD undef)).toNat)
  case atStart => exact HB.out
  case round =>
    obtain ⟨k, m, rfl, rfl, hfk, hk, hm, hn, hrd, hon⟩ := hrel
    clear HB
    obtain ⟨c0, c1, cf⟩ := hrd.cells
    have HN := Lib.hid hn
    have hc := (peekL s k).toNat_lt
    have hsub : IntKind.i64.wrap ((k : Int) + 1) = (k : Int) + 1 := IntWalk.i64_in _ (by omega)
    have hfr1 : IntKind.i64.wrap ((fr : Int) + 1) = (fr : Int) + 1 := IntWalk.i64_in _ (by omega)
    cases hd : isD (peekL s k)
    · have hnd : ¬ (48 ≤ (peekL s k).toNat ∧ (peekL s k).toNat ≤ 57) := by rw [← isD_iff, hd]; simp
      rw [numF_end hd] at HN
      clear hd hn
      generalize (peekL s k).toNat = cN at hc hnd
      have HO := Lib.hid hon
      have HR := Lib.hid hrd
      clear hon hrd
      by_cases h1 : 48 ≤ cN
      all_goals
        by_cases h3 : k = fr
        · subst h3
          rw [if_pos rfl] at HN
          go_wp2_with fail
          refine (fail_any _ k 12 _).mono ?_
          rintro e w2 ⟨rfl, rfl⟩
          exact ⟨rfl, PPost.bad HN.out.symm HO.out⟩
        · rw [if_neg h3] at HN
          have h3' : ¬ (k : Int) = (fr : Int) := by omega
          go_wp2_with fail
          go_ret
          exact PPost.ok HN.out.symm rfl HO.out HR.out
    · have hdd := (isD_iff _).1 hd
      have hlt := isD_end hd
      rw [numF_dig hd] at HN
      have PK := Lib.hid (fun wx (h : Rd wx g s (k + 1)) => peek_any g s (k + 1) wx h)
      have HO := Lib.hid hon
      have HR := Lib.hid hrd
      have HS := Lib.hid (hrd.set (k + 1))
      have ix := fun w => index_at s fr (by omega) w
      have hz := (peekL s fr).toNat_lt
      have hpf : peekL s fr = s[fr]'(by omega) := byte_at (by omega)
      rw [← hpf] at ix
      clear hd hn hpf hon hrd
      generalize (peekL s fr).toNat = zN at hz HN ix
      generalize (peekL s k).toNat = cN at hc hdd HN
      have d1 := hdd.1
      have d2 := hdd.2
      clear hdd
      by_cases h3 : k = fr + 1
      · have h3' : ((k : Int) == (fr : Int) + 1) = true := by simp; omega
        by_cases h4 : zN = 48
        · rw [if_pos ⟨h3, h4⟩] at HN
          clear h3
          go_wp2_with fail
          refine (fail_any _ k 12 _).mono ?_
          rintro e w2 ⟨rfl, rfl⟩
          exact ⟨rfl, PPost.bad HN.out.symm HO.out⟩
        · rw [if_neg (fun h => h4 h.2)] at HN
          clear h3
          go_wp2_with fail
          refine (PK.out _ HS.out).mono ?_
          rintro e w3 ⟨rfl, o3⟩
          go_wp2_with fail
          go_roundw
          case rel => exact ⟨k + 1, min (10 * m + (cN - 48)) 201, congrArg (Value.int .i64) (by omega), rfl, by omega, hlt, by omega, HN.out, HS.out.other o3 (fun h => h), (HO.out.is_set 1 _).is_nob o3⟩
          case measure => rw [(HS.out.other o3 (fun h => h)).cells.2.1, HR.out.cells.2.1]; simp [intOf]; omega
      · have h3' : ¬ (k : Int) = (fr : Int) + 1 := by omega
        rw [if_neg (fun h => h3 h.1)] at HN
        go_wp2_with fail
        refine (PK.out _ HS.out).mono ?_
        rintro e w3 ⟨rfl, o3⟩
        go_wp2_with fail
        go_roundw
        case rel => exact ⟨k + 1, min (10 * m + (cN - 48)) 201, congrArg (Value.int .i64) (by omega), rfl, by omega, hlt, by omega, HN.out, HS.out.other o3 (fun h => h), (HO.out.is_set 1 _).is_nob o3⟩
        case measure => rw [(HS.out.other o3 (fun h => h)).cells.2.1, HR.out.cells.2.1]; simp [intOf]; omega

end Go.Proofs.YtddjbfmohibgbaaDoor
