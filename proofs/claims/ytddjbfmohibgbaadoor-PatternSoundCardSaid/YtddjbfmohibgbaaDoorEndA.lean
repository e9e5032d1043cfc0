/- Chapter 05: what a pattern reaches; Matches. -/
import Derived.Test.YtddjbfmohibgbaaDoorNumA
import Derived.Test.YtddjbfmohibgbaaDoorPlainA
import Derived.RangeFuncNested
import Derived.RangeFuncBound
import Derived.RangeFuncCalls
import Derived.RangeFuncLeaves
import Derived.RangeFuncBox
import Derived.Shelf.Abstract
import Derived.Shelf.RegionOpen
import Derived.WalkKit
import Derived.OwnWalkIn
import Derived.TacticsInMore
import Derived.LoopNIn
import Derived.LoopIn
import Derived.Deep.RegionHeld3
import Derived.Lib.IndexBytes
import Derived.Deep.OwnRows
import Derived.Test.YtddjbfmohibgbaaDoorWrA

/- The iterator over the offsets at which a piece can end: its contract. -/
namespace Go.Proofs.YtddjbfmohibgbaaDoor
open Go.RowKit Go.Shelf

attribute [local go_sem] Oper.semAt_some

/-- An offset that is handed over. -/
abbrev EndA (n : Nat) := { e : Nat // e ≤ n }
def endV {n : Nat} (e : EndA n) : Array Value := #[.int .i64 (e.1 : Nat)]

def EndRel (x : Pc) (s : List UInt8) (k : Nat) (S : Nat → Prop) (J : List (EndA s.length) → World → Prop) (W0 : World) (iv : Value) (wr : World) : Prop :=
  ∃ (pre : List (EndA s.length)) (n f : Nat), iv = .int .i64 n ∧ k + n ≤ s.length + 1 ∧ s.length + 2 ≤ f + n ∧ endsL x s k = pre.map (·.1) ++ runL x s k f n ∧ J pre wr ∧ Only S W0 wr

theorem slice_from (s : List UInt8) (k : Nat) (h : k ≤ s.length) (w : World) : (Instr.slice 9 (.string ⟨s.toArray⟩) (some (.int .i64 (k : Int))) none none).run Tryd.prog w = .ok (.string ⟨(s.drop k).toArray⟩) w := by
  have hs : (⟨s.toArray⟩ : ByteArray).size = s.length := rfl
  have h1 := run_slice_string_from_if (P := Tryd.prog) (w := w) 9 ⟨s.toArray⟩ .i64 (k : Int) Tryd.underlying9
  rw [h1, if_pos ⟨by omega, by rw [hs]; omega⟩]
  have e : (⟨s.toArray⟩ : ByteArray).extract ((k : Int)).toNat (⟨s.toArray⟩ : ByteArray).size = ⟨(s.drop k).toArray⟩ := by
    apply str_eq
    rw [Lib.extract_to_end, Int.toNat_natCast]
  rw [e]

theorem index_at (s : List UInt8) (q : Nat) (h : q < s.length) (w : World) : (Instr.index 9 (.string ⟨s.toArray⟩) (.int .i64 (q : Int))).run Tryd.prog w = .ok (.int .u8 s[q].toNat) w := by
  have hs : (⟨s.toArray⟩ : ByteArray).size = s.length := rfl
  have h1 := run_index_string (P := Tryd.prog) (w := w) 9 ⟨s.toArray⟩ .i64 (q : Int) Tryd.underlying9
  rw [h1, dif_pos ⟨by omega, by rw [hs]; omega⟩]
  rfl

set_option maxRecDepth 100000 in
set_option maxHeartbeats 2000000 in
theorem ends1 (l Bx Bs Bf k : Nat) (x : Pc) (s : List UInt8) (S : Nat → Prop) (J Jx : List (EndA s.length) → World → Prop) (W : World) (hx : PcOk x) (hs : s.length ≤ 1000) (hk : k ≤ s.length)
    (hbx : ¬ S Bx) (hbs : ¬ S Bs) (hbf : ¬ S Bf) (cx : PcAt W Bx 0 x) (cs : W.cell? ⟨Bs, 0, none⟩ = some (.string ⟨s.toArray⟩)) (cf : W.cell? ⟨Bf, 0, none⟩ = some (.int .i64 k))
    (hJ : AbidesFrom W.heap.size J)
    (hY : ∀ pre y W1, J pre W1 → pre.length < 1003 → YieldAt Fence.wide 8 Tryd.prog l (endV y) W1 fun e W' =>
      (e = .returned (.bool true) ∧ J (pre ++ [y]) W' ∧ Only S W1 W') ∨ (e = .returned (.bool false) ∧ Jx (pre ++ [y]) W'))
    (h0 : J [] W) :
    CallsIn Fence.wide 9 Tryd.prog 130 #[.func (.yield l) #[] #[], .pointer (some ⟨Bx, 0, none⟩), .pointer (some ⟨Bs, 0, none⟩), .pointer (some ⟨Bf, 0, none⟩)] W fun r W' => (∃ v, r = .returned v) ∧
      ((∃ ys, ys.map (·.1) = endsL x s k ∧ J ys W') ∨ (∃ pre, pre.map (·.1) <+: endsL x s k ∧ Jx pre W')) := by
  obtain ⟨c, lo, m, t⟩ := x
  obtain ⟨hx1, hx2, hx3, hx4⟩ := hx
  simp only at hx1 hx2 hx3 hx4
  have hK := Lib.hid (show ∀ w', Only S W w' → PcAt w' Bx 0 ⟨c, lo, m, t⟩ ∧ w'.cell? ⟨Bs, 0, none⟩ = some (.string ⟨s.toArray⟩) ∧ w'.cell? ⟨Bf, 0, none⟩ = some (.int .i64 k) from fun w' o =>
    ⟨cx.other o hbx, (o.cell (a := ⟨Bs, 0, none⟩) (World.block_lt_of_cell? W _ cs) hbs).trans cs, (o.cell (a := ⟨Bf, 0, none⟩) (World.block_lt_of_cell? W _ cf) hbf).trans cf⟩)
  have hKc := Lib.hid (show ∀ w', Only S W w' → w'.cell? ⟨Bx, 0, none⟩ = some (.int .i64 c) ∧ w'.cell? ⟨Bx, 1, none⟩ = some (.int .i64 lo) ∧ w'.cell? ⟨Bx, 2, none⟩ = some (.int .i64 m) ∧ w'.cell? ⟨Bx, 3, none⟩ = some (.string ⟨t.toArray⟩) from fun w' o => (hK.out w' o).1)
  by_cases hc : c = 0
  · subst hc
    obtain ⟨e0, e1, e2, e3⟩ := hKc.out W (Only.refl _ _)
    refine callsIn_of_wp Tryd.func130 rfl trivial ?_ rfl
    simp only [Tryd.ntmps130, List.size_toArray, List.length_cons, List.length_nil, Nat.reduceAdd, Nat.reduceSub, Array.replicate_succ, Array.replicate_zero, List.push_toArray, List.append_toArray, List.nil_append, List.cons_append]
    gi_wp2
    refine wpIn_wide.2 ?_
    have sl := slice_from s k hk
    have HPx := Lib.hid (show ∀ w, Calls Tryd.prog 86 #[.string ⟨(s.drop k).toArray⟩, .string ⟨t.toArray⟩] w fun e w' => e = .returned (.bool (t.isPrefixOf (s.drop k))) ∧ w' = w from fun w => Tryd.strings_HasPrefix _ _ w)
    have hz : IntKind.i64.wrap ((k : Int) + (t.length : Int)) = ((k + t.length : Nat) : Int) := by rw [IntWalk.i64_in _ (by omega)]; omega
    have jd := hJ [] W W.drew none h0 (grown_of_only (Only.drew Nob W)) (fun _ h => by cases h)
    have kd := hKc.out W.drew (Only.drew S W)
    cases hb : t.isPrefixOf (s.drop k)
    · rw [hb] at HPx
      have HE := Lib.hid (show endsL ⟨0, lo, m, t⟩ s k = [] by unfold endsL; rw [if_pos rfl, hb]; rfl)
      clear hb
      go_region_held3 (fun w' => w'.cell? ⟨Bs, 0, none⟩ = some (.string ⟨s.toArray⟩) ∧ w'.cell? ⟨Bf, 0, none⟩ = some (.int .i64 k) ∧ w'.cell? ⟨Bx, 3, none⟩ = some (.string ⟨t.toArray⟩))
        (first | exact ⟨cs, cf, e3⟩ | fail)
        (first
          | (go_at_call 86; (with_reducible refine (HPx.out _).mono ?_); rintro e w' ⟨rfl, rfl⟩)
          | fail)
      gi_wp2
      refine bodyPost_ret (results_none rfl _ _ _) rfl ?_
      exact ⟨⟨_, rfl⟩, .inl ⟨[], by rw [HE.out]; rfl, jd⟩⟩
    · rw [hb] at HPx
      have hle := prefix_le hb hk
      have HE := Lib.hid (show endsL ⟨0, lo, m, t⟩ s k = [k + t.length] by unfold endsL; rw [if_pos rfl, hb]; rfl)
      clear hb
      go_region_held3 (fun w' => w'.cell? ⟨Bs, 0, none⟩ = some (.string ⟨s.toArray⟩) ∧ w'.cell? ⟨Bf, 0, none⟩ = some (.int .i64 k) ∧ w'.cell? ⟨Bx, 3, none⟩ = some (.string ⟨t.toArray⟩))
        (first | exact ⟨cs, cf, e3⟩ | fail)
        (first
          | (go_at_call 86; (with_reducible refine (HPx.out _).mono ?_); rintro e w' ⟨rfl, rfl⟩)
          | fail)
      obtain ⟨fn, tmps, assign, body, hy, hR⟩ := hY [] ⟨k + t.length, hle⟩ W.drew jd (by simp)
      dsimp only [endV] at hy
      rw [show ((k + t.length : Nat) : Int) = (k : Int) + (t.length : Int) by omega] at hy
      gi_wp2_with fail
      refine hR.mono ?_
      rintro r w3 (⟨rfl, hJ3, hk3⟩ | ⟨rfl, hx3⟩)
      · gi_wp2
        refine bodyPost_ret (results_none rfl _ _ _) rfl ?_
        exact ⟨⟨_, rfl⟩, .inl ⟨_, by rw [HE.out]; rfl, hJ3⟩⟩
      · gi_wp2
        refine bodyPost_ret (results_none rfl _ _ _) rfl ?_
        exact ⟨⟨_, rfl⟩, .inr ⟨_, by rw [HE.out]; exact List.prefix_refl _, hx3⟩⟩
  · have c0 : (c == 0) = false := by simp; omega
    have HE := Lib.hid (show endsL ⟨c, lo, m, t⟩ s k = runL ⟨c, lo, m, t⟩ s k (s.length + 2) 0 by unfold endsL; rw [if_neg hc])
    obtain ⟨e0, e1, e2, e3⟩ := hKc.out W (Only.refl _ _)
    refine callsIn_of_wp Tryd.func130 rfl trivial ?_ rfl
    simp only [Tryd.ntmps130, List.size_toArray, List.length_cons, List.length_nil, Nat.reduceAdd, Nat.reduceSub, Array.replicate_succ, Array.replicate_zero, List.push_toArray, List.append_toArray, List.nil_append, List.cons_append]
    clear hc
    gi_wp2
    gi_loopw [5] (fun p wr => EndRel ⟨c, lo, m, t⟩ s k S J W p wr) (fun p _ => s.length + 2 - (intOf p).toNat)
    case atStart => exact ⟨[], 0, s.length + 2, rfl, by omega, by omega, by rw [HE.out]; rfl, h0, Only.refl _ _⟩
    case round =>
      obtain ⟨pre, n, f, rfl, g1, g2, g3, g4, g5⟩ := hrel
      clear e0 e1 e2 e3 h0 HE
      obtain ⟨e0, e1, e2, e3⟩ := hKc.out wr g5
      obtain ⟨-, cs1, cf1⟩ := hK.out wr g5
      have hts : (⟨s.toArray⟩ : ByteArray).size = s.length := rfl
      have G3 := Lib.hid g3
      have G5 := Lib.hid g5
      clear g3 g5
      have hw1 : IntKind.i64.wrap ((k : Int) + (n : Int)) = (k : Int) + (n : Int) := IntWalk.i64_in _ (by omega)
      by_cases hm : (n : Int) ≤ m
      · by_cases hn : k + n ≤ s.length
        · have hn' : (k : Int) + (n : Int) ≤ (s.length : Int) := by omega
          obtain ⟨f, rfl⟩ : ∃ f', f = f' + 1 := ⟨f - 1, by omega⟩
          have hpl : pre.length + 1 ≤ 1002 ∨ ¬ lo ≤ (n : Int) ∨ (0 < n ∧ cin (cls (s.getD (k + n - 1) 0)) c = false) := by
            by_cases hl : lo ≤ (n : Int)
            · by_cases hb : 0 < n ∧ cin (cls (s.getD (k + n - 1) 0)) c = false
              · exact .inr (.inr hb)
              · left
                have h := endsL_len ⟨c, lo, m, t⟩ s k
                rw [G3.out, runL_go ⟨hm, hn⟩ hb, if_pos hl] at h
                simp at h
                omega
            · exact .inr (.inl hl)
          have HPL := Lib.hid hpl
          clear hpl
          by_cases hn0 : n = 0
          case' pos =>
            subst hn0
            have HG := Lib.hid (G3.out.trans (congrArg (pre.map (·.1) ++ ·) (runL_go (f := f) ⟨hm, hn⟩ (by omega))))
            have HNB := Lib.hid (show ¬ (0 < 0 ∧ cin (cls (s.getD (k + 0 - 1) 0)) c = false) by omega)
            gi_wp2_with fail
            refine wpIn_wide.2 ?_
            go_quiet (fail)
            obtain ⟨w2, hw2⟩ : ∃ w2 : World, w2 = wr.drewN nq := ⟨_, rfl⟩
            have oq : Only Nob wr w2 := by rw [hw2]; exact Only.drewN Nob wr nq
            rw [← hw2]
            clear hw2
            have jd := hJ pre wr w2 none g4 (grown_of_only oq) (fun _ h => by cases h)
            have kd := hKc.out w2 (G5.out.trans (oq.mono (fun _ _ h => h.elim)) (fun _ _ h => h))
            obtain ⟨f0, f1, f2, f3⟩ := kd
            obtain ⟨-, cs2, cf2⟩ := hK.out w2 (G5.out.trans (oq.mono (fun _ _ h => h.elim)) (fun _ _ h => h))
            by_cases hl : lo ≤ ((0 : Nat) : Int)
            · have hpl : pre.length < 1003 := by
                rcases HPL.out with h | h | h
                · omega
                · omega
                · exact absurd h HNB.out
              have HG2 : Hid (endsL ⟨c, lo, m, t⟩ s k = pre.map (·.1) ++ ((k + 0) :: runL ⟨c, lo, m, t⟩ s k f (0 + 1))) := by
                have h := HG.out
                rw [if_pos hl] at h
                exact h
              obtain ⟨fn, tmps, assign, body, hy, hR⟩ := hY pre ⟨k + 0, hn⟩ w2 jd hpl
              dsimp only [endV] at hy
              simp only [Nat.add_zero] at hy
              clear HG
              gi_wp2_with fail
              refine hR.mono ?_
              rintro r w3 (⟨rfl, hJ3, hk3⟩ | ⟨rfl, hx3⟩)
              · gi_wp2
                go_roundw
                case rel => exact ⟨pre ++ [⟨k + 0, hn⟩], 0 + 1, f, by go_num, by omega, by omega, by rw [HG2.out]; simp, hJ3, (G5.out.trans (oq.mono (fun _ _ h => h.elim)) (fun _ _ h => h)).trans hk3 (fun _ _ h => h)⟩
                case measure => first | (simp [intOf]; done) | (simp [intOf]; omega)
              · gi_wp2
                refine bodyPost_ret (results_none rfl _ _ _) rfl ?_
                exact ⟨⟨_, rfl⟩, .inr ⟨pre ++ [⟨k + 0, hn⟩], by rw [HG2.out]; exact ⟨runL ⟨c, lo, m, t⟩ s k f (0 + 1), by simp⟩, hx3⟩⟩
            · have hl' : ((0 : Nat) : Int) < lo := by omega
              have HG2 : Hid (endsL ⟨c, lo, m, t⟩ s k = pre.map (·.1) ++ runL ⟨c, lo, m, t⟩ s k f (0 + 1)) := by
                have h := HG.out
                rw [if_neg hl] at h
                exact h
              have hl2 : 0 < lo := by omega
              clear HG
              gi_wp2_with fail
              refine ⟨fun _ h => (by cases h), ?_⟩
              gi_wp2
              go_roundw
              case rel => exact ⟨pre, 0 + 1, f, by go_num, by omega, by omega, HG2.out, jd, G5.out.trans (oq.mono (fun _ _ h => h.elim)) (fun _ _ h => h)⟩
              case measure => first | (simp [intOf]; done) | (simp [intOf]; omega)
          case' neg =>
            have hq : k + n - 1 < s.length := by omega
            obtain ⟨q, hqe⟩ : ∃ q, q = k + n - 1 := ⟨_, rfl⟩
            have hw2 : IntKind.i64.wrap ((k : Int) + (n : Int) - 1) = (q : Int) := by rw [IntWalk.i64_in _ (by omega)]; omega
            have hn1 : (0 : Int) < (n : Int) := by omega
            have hn2 : 0 < n := by omega
            have hql : q < s.length := by omega
            have hix := index_at s q hql
            have hgd : s.getD (k + n - 1) 0 = s[q] := by subst hqe; exact getD_lt _ hq
            clear hqe hq
            gi_wp2_with fail
            refine wpIn_wide.2 ?_
            have jd := hJ pre wr wr.drew none g4 (grown_of_only (Only.drew Nob wr)) (fun _ h => by cases h)
            have CB := Lib.hid (class_any s[q])
            cases hcc : cin (cls s[q]) c
            · have CC := Lib.hid (show ∀ w, Calls Tryd.prog 113 #[.int .i64 (cls s[q]), .int .i64 c] w fun e w' => e = .returned (.bool false) ∧ w = w' from fun w => by have := contained_any (cls s[q]) c w; rw [hcc] at this; exact this)
              rw [runL_bad ⟨by omega, by rw [hgd]; exact hcc⟩, List.append_nil] at G3
              clear hcc hgd
              go_region_held3 (fun w' => w'.cell? ⟨Bs, 0, none⟩ = some (.string ⟨s.toArray⟩) ∧ w'.cell? ⟨Bf, 0, none⟩ = some (.int .i64 k) ∧ w'.cell? ⟨Bx, 0, none⟩ = some (.int .i64 c))
                (first | exact ⟨cs1, cf1, e0⟩ | fail)
                (first
                  | (go_at_call 30; (with_reducible refine (CB.out _).mono ?_); rintro e w' ⟨rfl, rfl⟩)
                  | (go_at_call 113; (with_reducible refine (CC.out _).mono ?_); rintro e w' ⟨rfl, rfl⟩)
                  | fail)
              gi_wp2
              refine bodyPost_ret (results_none rfl _ _ _) rfl ?_
              exact ⟨⟨_, rfl⟩, .inl ⟨pre, G3.out.symm, jd⟩⟩
            have CC := Lib.hid (show ∀ w, Calls Tryd.prog 113 #[.int .i64 (cls s[q]), .int .i64 c] w fun e w' => e = .returned (.bool true) ∧ w = w' from fun w => by have := contained_any (cls s[q]) c w; rw [hcc] at this; exact this)
            have HNB := Lib.hid (show ¬ (0 < n ∧ cin (cls (s.getD (k + n - 1) 0)) c = false) by rw [hgd, hcc]; rintro ⟨_, h⟩; cases h)
            have HG := Lib.hid (G3.out.trans (congrArg (pre.map (·.1) ++ ·) (runL_go (f := f) ⟨hm, hn⟩ HNB.out)))
            clear hcc hgd
            go_region_held3 (fun w' => w'.cell? ⟨Bs, 0, none⟩ = some (.string ⟨s.toArray⟩) ∧ w'.cell? ⟨Bf, 0, none⟩ = some (.int .i64 k) ∧ w'.cell? ⟨Bx, 0, none⟩ = some (.int .i64 c))
              (first | exact ⟨cs1, cf1, e0⟩ | fail)
              (first
                | (go_at_call 30; (with_reducible refine (CB.out _).mono ?_); rintro e w' ⟨rfl, rfl⟩)
                | (go_at_call 113; (with_reducible refine (CC.out _).mono ?_); rintro e w' ⟨rfl, rfl⟩)
                | fail)
            have kd := hKc.out wr.drew (G5.out.trans (Only.drew S wr) (fun _ _ h => h))
            obtain ⟨f0, f1, f2, f3⟩ := kd
            by_cases hl : lo ≤ ((n : Nat) : Int)
            · have hpl : pre.length < 1003 := by
                rcases HPL.out with h | h | h
                · omega
                · omega
                · exact absurd h HNB.out
              have HG2 : Hid (endsL ⟨c, lo, m, t⟩ s k = pre.map (·.1) ++ ((k + n) :: runL ⟨c, lo, m, t⟩ s k f (n + 1))) := by
                have h := HG.out
                rw [if_pos hl] at h
                exact h
              obtain ⟨fn, tmps, assign, body, hy, hR⟩ := hY pre ⟨k + n, hn⟩ wr.drew jd hpl
              dsimp only [endV] at hy
              rw [show ((k + n : Nat) : Int) = (k : Int) + (n : Int) by omega] at hy
              clear HG
              gi_wp2_with fail
              refine hR.mono ?_
              rintro r w3 (⟨rfl, hJ3, hk3⟩ | ⟨rfl, hx3⟩)
              · gi_wp2
                go_roundw
                case rel => exact ⟨pre ++ [⟨k + n, hn⟩], n + 1, f, by go_num, by omega, by omega, by rw [HG2.out]; simp, hJ3, (G5.out.trans (Only.drew S wr) (fun _ _ h => h)).trans hk3 (fun _ _ h => h)⟩
                case measure => simp [intOf]; omega
              · gi_wp2
                refine bodyPost_ret (results_none rfl _ _ _) rfl ?_
                exact ⟨⟨_, rfl⟩, .inr ⟨pre ++ [⟨k + n, hn⟩], by rw [HG2.out]; exact ⟨runL ⟨c, lo, m, t⟩ s k f (n + 1), by simp⟩, hx3⟩⟩
            · have hl' : ((n : Nat) : Int) < lo := by omega
              have HG2 : Hid (endsL ⟨c, lo, m, t⟩ s k = pre.map (·.1) ++ runL ⟨c, lo, m, t⟩ s k f (n + 1)) := by
                have h := HG.out
                rw [if_neg hl] at h
                exact h
              skip
              clear HG
              gi_wp2_with fail
              refine ⟨fun _ h => (by cases h), ?_⟩
              gi_wp2
              go_roundw
              case rel => exact ⟨pre, n + 1, f, by go_num, by omega, by omega, HG2.out, jd, G5.out.trans (Only.drew S wr) (fun _ _ h => h)⟩
              case measure => simp [intOf]; omega
        · have hn' : (s.length : Int) < (k : Int) + (n : Int) := by omega
          rw [runL_stop (by rintro ⟨_, h⟩; exact hn h), List.append_nil] at G3
          gi_wp2
          go_end0
          exact ⟨⟨_, rfl⟩, .inl ⟨pre, G3.out.symm, g4⟩⟩
      · have hm' : m < (n : Int) := by omega
        rw [runL_stop (by rintro ⟨h, _⟩; exact hm h), List.append_nil] at G3
        gi_wp2
        go_end0
        exact ⟨⟨_, rfl⟩, .inl ⟨pre, G3.out.symm, g4⟩⟩

end Go.Proofs.YtddjbfmohibgbaaDoor

/- Rows of Booleans in memory; the marks that loops over iterators leave among a call's deferred calls. -/
namespace Go.Proofs.YtddjbfmohibgbaaDoor
open Go.RowKit Go.Shelf

/-- A block that holds the Booleans b, and nothing else. -/
def BRow (w : World) (g : Nat) (b : List Bool) : Prop := w.heap[g]? = some (.cells (b.map Value.bool).toArray 4 (0, 0))

theorem BRow.lt {w : World} {g : Nat} {b : List Bool} (h : BRow w g b) : g < w.heap.size := lt_of_heap h
theorem BRow.other {S : Nat → Prop} {w w' : World} {g : Nat} {b : List Bool} (h : BRow w g b) (ho : Only S w w') (hn : ¬ S g) : BRow w' g b := (ho.block g h.lt hn).trans h
theorem BRow.cell {w : World} {g : Nat} {b : List Bool} (h : BRow w g b) {i : Nat} (hi : i < b.length) : w.cell? ⟨g, i, none⟩ = some (.bool b[i]) := by
  unfold BRow at h
  simp [World.cell?, h, hi]
theorem BRow.free {w : World} {g : Nat} {b : List Bool} (h : BRow w g b) (i : Nat) : w.frozen? ⟨g, i, none⟩ = false := by
  unfold BRow at h
  simp [World.frozen?, h]
theorem BRow.set {w : World} {g : Nat} {b : List Bool} (h : BRow w g b) (i : Nat) (v : Bool) : BRow (w.setCell ⟨g, i, none⟩ (.bool v)) g (b.set i v) := by
  have := heap_setCell_same w g i _ 4 (.bool v) h
  unfold BRow
  rw [this]
  simp [List.map_set]
theorem BRow.new (w : World) (n : Nat) : BRow (w.alloc (.cells (Array.replicate n (Value.bool false)) 4)) w.heap.size (List.replicate n false) := by
  unfold BRow
  rw [heap_alloc_new]
  simp

theorem Tryd.info4 : (Tryd.prog.info? 4).map (fun i => (i.zero, i.size, i.bytes)) = some (some (.bool false), 1, 1) := by kernel_rfl

theorem run_bools (w : World) (n : Nat) (hn : n ≤ 100000) : (Instr.makeSlice 91 (.int .i64 n) (.int .i64 n)).run Tryd.prog w = .ok (.slice (some ⟨w.heap.size, 0, none⟩) n n) (w.alloc (.cells (Array.replicate n (Value.bool false)) 4)) := by
  have h := run_make_row' (P := Tryd.prog) 91 4 (.bool false) 1 Tryd.underlying91 Tryd.info4 rfl .i64 .i64 n (by omega) (by omega) w
  have e : madeCells #[.bool false] n = (List.replicate n (Value.bool false)).toArray := by
    apply Array.ext
    · simp [madeCells]
    · intro i h1 h2
      simp [madeCells, Nat.mod_one]
  rw [h, e, List.toArray_replicate]

theorem grown_only {W W' : World} {row : Option Nat} (hg : W.grownBy W' row) : Only (fun k => row = some k) W W' := Only.grown hg (fun _ h => h)
theorem not_row {W : World} {row : Option Nat} (hr : ∀ r, row = some r → ∃ o : Obj, W.heap[r]? = some o ∧ o.isCells = false) {k : Nat} (hk : ∃ o : Obj, W.heap[k]? = some o ∧ o.isCells = true) : ¬ row = some k := fun e => by
  obtain ⟨o, ho, hc⟩ := hk
  obtain ⟨o', ho', hc'⟩ := hr k e
  rw [ho] at ho'
  obtain rfl := Option.some.inj ho'
  rw [hc] at hc'; cases hc'

theorem keeps_only {T : Nat → Prop} {W W' : World} (ho : Only T W W') (hT : ∀ k, T k → k < W.heap.size → ∃ o : Obj, W.heap[k]? = some o ∧ o.isCells = true) : KeepsOthers W W' :=
  ⟨ho.size, fun k o hk hc => by
    rw [ho.block k (lt_of_heap hk) (fun ht => ?_)]; exact hk
    obtain ⟨o', ho', hc'⟩ := hT k ht (lt_of_heap hk)
    rw [hk] at ho'
    obtain rfl := Option.some.inj ho'
    rw [hc] at hc'; cases hc'⟩

theorem only_putObj {S : Nat → Prop} (W : World) (l : Nat) (o : Obj) (h : S l) : Only S W (W.putObj l o) := (grown_only (grownBy_putObj' W l o)).mono (fun k _ hk => by cases hk; exact h)

/-- The marks ds: each is a block of its own from B on, below U, that holds no call. -/
def Marks (w : World) (B : Nat) : Nat → List Deferred → Prop
  | _, [] => True
  | U, d :: ds => ∃ D, d = { target := .collected D, args := #[] } ∧ B ≤ D ∧ D < U ∧ w.heap[D]? = some (.deferred (some [])) ∧ Marks w B D ds

theorem Marks.up {w : World} {B U U' : Nat} {ds : List Deferred} (h : Marks w B U ds) (hU : U ≤ U') : Marks w B U' ds := by
  cases ds with
  | nil => trivial
  | cons d ds =>
    obtain ⟨D, h1, h2, h3, h4, h5⟩ := h
    exact ⟨D, h1, h2, by omega, h4, h5⟩
theorem Marks.other {S : Nat → Prop} {w w' : World} {B : Nat} (ho : Only S w w') : ∀ {U : Nat} {ds : List Deferred}, Marks w B U ds → (∀ k, S k → k < U → ∀ o, w.heap[k]? = some o → o.isCells = true) → U ≤ w.heap.size → Marks w' B U ds
  | _, [], _, _, _ => trivial
  | U, d :: ds, h, hS, hU => by
    obtain ⟨D, h1, h2, h3, h4, h5⟩ := h
    refine ⟨D, h1, h2, h3, ?_, Marks.other ho h5 (fun k hk hl => hS k hk (by omega)) (by omega)⟩
    refine (ho.block D (by omega) (fun hx => ?_)).trans h4
    have := hS D hx h3 _ h4
    cases this

/-- What a walk out of a function does to memory: the marks are shut. -/
def Shut0 (B : Nat) (w w' : World) : Prop := Only (fun k => B ≤ k ∧ ∀ o, w.heap[k]? = some o → o.isCells = false) w w'

theorem leaves_marks {F : Fence} {n : Nat} {P : Program} {fn : Func} {tmps : Array Value} {R : Ending → World → Prop} {B : Nat} : ∀ (ds : List Deferred) (U : Nat) (w : World), Marks w B U ds → U ≤ w.heap.size →
    (∀ w', Only (fun k => B ≤ k ∧ k < U ∧ ∀ o, w.heap[k]? = some o → o.isCells = false) w w' → LeavesIn F n P fn tmps R [] .returning w') → LeavesInM F n P fn tmps R ds .returning w
  | [], U, w, _, _, h => h w (Only.refl _ _)
  | d :: ds, U, w, hm, hU, h => by
    obtain ⟨D, rfl, h2, h3, h4, h5⟩ := hm
    refine ⟨by simp, .inl ⟨D, _, rfl, run_takeDeferred h4, ?_⟩⟩
    have hlt : D < w.heap.size := lt_of_heap h4
    have o1 : Only (Is D) w (w.putObj D (.deferred none)) := only_putObj _ _ _ rfl
    have hz : (w.putObj D (.deferred none)).heap.size = w.heap.size := World.putObj_size
    refine leaves_marks ds D _ (Marks.other o1 h5 (fun k hk hl => absurd hl (by have : k = D := hk; omega)) (by omega)) (by omega) (fun w' o => h w' ?_)
    refine (o1.mono (fun k _ hk => ?_)).trans (o.mono (fun k hk hx => hx)) (fun k hk hx => ?_)
    · have : k = D := hk
      subst this
      refine ⟨h2, h3, fun o ho => ?_⟩
      rw [h4] at ho
      obtain rfl := Option.some.inj ho
      rfl
    · obtain ⟨g1, g2, g3⟩ := hx
      refine ⟨g1, by omega, fun o ho => g3 o ?_⟩
      rw [o1.block k hk (fun e => by have : k = D := e; omega)]
      exact ho

end Go.Proofs.YtddjbfmohibgbaaDoor

/- A region that draws its order, in a round of a loop over an iterator: what is shown of it outside a round holds in the round too. No program is looked at. -/
namespace Go.Proofs.YtddjbfmohibgbaaDoor
open Go.RowKit

theorem uponIn_round {P : Program} {o : Oper} {a : Act} {next : Act → World → Prop} {Q : Exit → Act → World → Prop} {r : Result Next} (l n : Nat) (h : o.upon P a next Q r) : o.uponIn (Fence.wide.inRound l) n P a next Q r := by
  unfold Oper.upon at h
  unfold Oper.uponIn
  split at h
  · exact h
  · exact h
  · exact h
  · exact ⟨(fun h => nomatch h), CallsIn.inRound l (callsIn_wide.2 h)⟩
  · exact ⟨(fun h => nomatch h), fun c cs _ => let ⟨v, w', r, s⟩ := h c cs; ⟨v, w', r, stepsIn_wide.2 s⟩⟩
  · exact h
  · exact h.elim

theorem wpOpsIn_round {P : Program} {ops : Array Oper} {Q : Exit → Act → World → Prop} (l n : Nat) (hno : ¬ LetsOut Q) (hd : ∀ (i : Nat) (o : Oper), ops[i]? = some o → ∀ c, o.op ≠ .defer c) :
    ∀ (is : List Nat) (a : Act) (w : World), wpOps P ops Q is a w → wpOpsIn (Fence.wide.inRound l) n P ops Q is a w
  | [], _, _, h => h
  | i :: is, a, w, h => by
    unfold wpOps at h
    unfold wpOpsIn
    cases ho : ops[i]? with
    | none => simp only [ho] at h ⊢; exact wpOpsIn_round l n hno hd is a w h
    | some o =>
      simp only [ho] at h ⊢
      by_cases hw : Region.wanted o (yielded ops a.tmps) = true
      · rw [if_pos hw] at h ⊢
        rcases h with h | ⟨_, h⟩
        · refine ⟨fun _ _ => trivial, ?_⟩
          have e : o.semAt (Fence.wide.inRound l).round a.eval = execOp a.eval o := Oper.semAt_some l _ _ (hd i o ho)
          rw [e]
          refine uponIn_round l n ?_
          exact Oper.wp_mono (fun a' w' h' => wpOpsIn_round l n hno hd is a' w' h') h
        · exact absurd h hno
      · rw [if_neg hw] at h ⊢
        exact ⟨fun _ _ => trivial, wpOpsIn_round l n hno hd is _ w h⟩

theorem wpIn_round_held {P : Program} {ops : Array Oper} {Q : Exit → Act → World → Prop} {id : Nat} {a : Act} {w : World} (S : World → Prop) (l n : Nat) (hm : P.follows .mixedOrders = true) (hno : ¬ LetsOut Q) (hd : ∀ (i : Nat) (o : Oper), ops[i]? = some o → ∀ c, o.op ≠ .defer c) (hS : S w.drew)
    (h : S w.drew → wpAnyH P .any ops Q S ops.size (Array.replicate ops.size false) a w.drew) : (Code.region id ops true).wpIn (Fence.wide.inRound l) n P Q a w :=
  wpIn_region_draw fun t => by
    simp only [Region.schedule, hm, Bool.true_or, if_true]
    exact wpOpsIn_round l n hno hd _ _ _ (wpAny_sound ops.size t _ a _ (wpAny_of_held _ _ _ _ (h hS)))

end Go.Proofs.YtddjbfmohibgbaaDoor

/- What a pattern reaches: the program's function. -/
namespace Go.Proofs.YtddjbfmohibgbaaDoor
open Go.RowKit Go.Shelf

attribute [local go_sem] Oper.semAt_some

/-- The world in which a piece, a string and an offset lie in boxes. -/
def endsW (w : World) (x : Pc) (s : List UInt8) (k : Nat) : World :=
  ((w.alloc (.cells #[.int .i64 x.c, .int .i64 x.l, .int .i64 x.m, .string ⟨x.t.toArray⟩] 31)).alloc (.cells #[.string ⟨s.toArray⟩] 9)).alloc (.cells #[.int .i64 k] 3)

theorem ends_any (x : Pc) (s : List UInt8) (k : Nat) (w : World) : Calls Tryd.prog 110 #[pcV x, .string ⟨s.toArray⟩, .int .i64 k] w fun e w' =>
    e = .returned (.func (.func 130) #[] #[.pointer (some ⟨w.heap.size, 0, none⟩), .pointer (some ⟨w.heap.size + 1, 0, none⟩), .pointer (some ⟨w.heap.size + 1 + 1, 0, none⟩)]) ∧ w' = endsW w x s k := by
  unfold pcV SV
  go_enter Tryd.func110, Tryd.ntmps110
  go_wp2
  go_ret
  exact ⟨rfl, rfl⟩

theorem endsW_at (w : World) (x : Pc) (s : List UInt8) (k : Nat) : (endsW w x s k).heap.size = w.heap.size + 3 ∧ Only Nob w (endsW w x s k) ∧ PcAt (endsW w x s k) w.heap.size 0 x ∧
    (endsW w x s k).cell? ⟨w.heap.size + 1, 0, none⟩ = some (.string ⟨s.toArray⟩) ∧ (endsW w x s k).cell? ⟨w.heap.size + 1 + 1, 0, none⟩ = some (.int .i64 k) := by
  unfold endsW
  refine ⟨by simp, ((Only.alloc _ _ _).nob (Only.alloc _ _ _)).nob (Only.alloc _ _ _), ?_, ?_, ?_⟩
  · have h : PcAt (w.alloc (.cells #[.int .i64 x.c, .int .i64 x.l, .int .i64 x.m, .string ⟨x.t.toArray⟩] 31)) w.heap.size 0 x := by unfold PcAt; simp
    exact h.other ((Only.alloc Nob _ _).nob (Only.alloc Nob _ _)) (fun h => h)
  · generalize hA : w.alloc (.cells #[.int .i64 x.c, .int .i64 x.l, .int .i64 x.m, .string ⟨x.t.toArray⟩] 31) = wA
    have hz : wA.heap.size = w.heap.size + 1 := by rw [← hA]; simp
    have h := Boxed.new wA 9 (.string ⟨s.toArray⟩)
    rw [← hz]
    exact (h.alloc (.cells #[.int .i64 k] 3)).cell
  · generalize hA : (w.alloc (.cells #[.int .i64 x.c, .int .i64 x.l, .int .i64 x.m, .string ⟨x.t.toArray⟩] 31)).alloc (.cells #[.string ⟨s.toArray⟩] 9) = wA
    have hz : wA.heap.size = w.heap.size + 1 + 1 := by rw [← hA]; simp
    have h := Boxed.new wA 3 (.int .i64 k)
    rw [← hz]
    exact h.cell

theorem ends_stops (x : Pc) (s : List UInt8) (k : Nat) (S : Nat → Prop) (w0 : World) (hx : PcOk x) (hs : s.length ≤ 1000) (hk : k ≤ s.length) (hS : ∀ j, S j → j < w0.heap.size ∨ w0.heap.size + 3 ≤ j) :
    SeqStopsK Fence.wide 9 Tryd.prog 130 #[.pointer (some ⟨w0.heap.size, 0, none⟩), .pointer (some ⟨w0.heap.size + 1, 0, none⟩), .pointer (some ⟨w0.heap.size + 1 + 1, 0, none⟩)] (endV (n := s.length)) (Only S) (fun ys => ys.map (·.1) = endsL x s k) (fun pre => pre.map (·.1) <+: endsL x s k) 1003 (endsW w0 x s k) := by
  intro l J Jx W hW hJ _ hY h0
  obtain ⟨hz, _, cx, cs, cf⟩ := endsW_at w0 x s k
  have hK : ∀ (a : Addr), a.block < w0.heap.size + 3 → W.cell? a = (endsW w0 x s k).cell? a := fun a h => hW.cell (p := a) (by omega)
  refine ends1 l w0.heap.size (w0.heap.size + 1) (w0.heap.size + 1 + 1) k x s S J Jx W hx hs hk (fun h => by have := hS _ h; omega) (fun h => by have := hS _ h; omega) (fun h => by have := hS _ h; omega)
    ?_ ((hK _ (by show w0.heap.size + 1 < _; omega)).trans cs) ((hK _ (by show w0.heap.size + 1 + 1 < _; omega)).trans cf) hJ hY h0
  obtain ⟨c0, c1, c2, c3⟩ := cx
  have hb : w0.heap.size < w0.heap.size + 3 := by omega
  exact ⟨(hK _ hb).trans c0, (hK _ hb).trans c1, (hK _ hb).trans c2, (hK _ hb).trans c3⟩

/-- The loop over the pieces. -/
def RchO (w : World) (p : List Pc) (s : List UInt8) (f : Nat) (ao : Option Addr) (cap : Nat) (a : Act) (wr : World) : Prop :=
  ∃ (j g : Nat) (ds : List Deferred) (u9 u10 u11 u12 u13 u24 u25 u26 u27 u28 u29 u30 u31 u32 u33 u34 u35 u36 u37 u38 u39 u40 u41 u42 u43 u44 u45 u46 u47 u48 u49 u50 : Value), a = { tmps := #[.slice ao p.length cap, .string ⟨s.toArray⟩, .int .i64 f, undef, undef, undef, .slice none 0 0, .slice (some ⟨g, 0, none⟩) (s.length + 1) (s.length + 1), undef, u9, u10, u11, u12, u13, .string ⟨s.toArray⟩, .int .i64 s.length, .int .i64 ((s.length : Int) + 1), .slice (some ⟨w.heap.size, 0, none⟩) (s.length + 1) (s.length + 1), .slice (some ⟨w.heap.size, 0, none⟩) (s.length + 1) (s.length + 1), .int .i64 f, .pointer (some ⟨w.heap.size, f, none⟩), .slice ao p.length cap, .int .i64 p.length, .int .i64 (j : Nat), u24, u25, u26, u27, u28, u29, u30, u31, u32, u33, u34, u35, u36, u37, u38, u39, u40, u41, u42, u43, u44, u45, u46, u47, u48, u49, u50, undef], defers := ds } ∧ j ≤ p.length ∧ BRow wr g (reachL (p.take j) s f) ∧ Only Nob w wr ∧ Marks wr w.heap.size wr.heap.size ds ∧ w.heap.size ≤ g

/-- The loop over the offsets. -/
def RchN (w : World) (p : List Pc) (s : List UInt8) (f : Nat) (ao : Option Addr) (cap : Nat) (x : Pc) (now : List Bool) (j g g2 Bn Bx : Nat) (u24 u25 u26 u27 u28 u29 u30 u49 u50 : Value) (a : Act) (wr : World) : Prop :=
  ∃ (k : Nat) (ds : List Deferred) (u11 u12 u13 u34 u35 u36 u37 u38 u39 u40 u41 u42 u43 u44 u45 u46 u47 u48 : Value), a = { tmps := #[.slice ao p.length cap, .string ⟨s.toArray⟩, .int .i64 f, undef, undef, undef, .slice none 0 0, .slice (some ⟨g, 0, none⟩) (s.length + 1) (s.length + 1), undef, .pointer (some ⟨Bx, 0, none⟩), .pointer (some ⟨Bn, 0, none⟩), u11, u12, u13, .string ⟨s.toArray⟩, .int .i64 s.length, .int .i64 ((s.length : Int) + 1), .slice (some ⟨w.heap.size, 0, none⟩) (s.length + 1) (s.length + 1), .slice (some ⟨w.heap.size, 0, none⟩) (s.length + 1) (s.length + 1), .int .i64 f, .pointer (some ⟨w.heap.size, f, none⟩), .slice ao p.length cap, .int .i64 p.length, .int .i64 (j : Nat), u24, u25, u26, u27, u28, u29, u30, .slice (some ⟨g, 0, none⟩) (s.length + 1) (s.length + 1), .int .i64 ((s.length : Int) + 1), .int .i64 (k : Nat), u34, u35, u36, u37, u38, u39, u40, u41, u42, u43, u44, u45, u46, u47, u48, u49, u50, undef], defers := ds } ∧ k ≤ s.length + 1 ∧ BRow wr g now ∧ BRow wr g2 (stepF x s now k) ∧ Boxed wr Bn 91 (.slice (some ⟨g2, 0, none⟩) (s.length + 1) (s.length + 1)) ∧ PcAt wr Bx 0 x ∧ Only Nob w wr ∧ Marks wr w.heap.size wr.heap.size ds ∧ (w.heap.size ≤ g2 ∧ g ≠ g2 ∧ Bn ≠ g2 ∧ Bx ≠ g2)

/-- The world in which a round over a piece begins. -/
def rchW (w : World) (x : Pc) (n : Nat) : World :=
  ((w.alloc (.cells #[.int .i64 x.c, .int .i64 x.l, .int .i64 x.m, .string ⟨x.t.toArray⟩] 31)).alloc (.cells (Array.replicate n (Value.bool false)) 4)).alloc (.cells #[.slice (some ⟨w.heap.size + 1, 0, none⟩) n n] 91)

theorem rchW_at (w : World) (x : Pc) (n : Nat) : (rchW w x n).heap.size = w.heap.size + 3 ∧ Only Nob w (rchW w x n) ∧ PcAt (rchW w x n) w.heap.size 0 x ∧ BRow (rchW w x n) (w.heap.size + 1) (List.replicate n false) ∧ Boxed (rchW w x n) (w.heap.size + 1 + 1) 91 (.slice (some ⟨w.heap.size + 1, 0, none⟩) n n) := by
  unfold rchW
  refine ⟨by simp, ((Only.alloc _ _ _).nob (Only.alloc _ _ _)).nob (Only.alloc _ _ _), ?_, ?_, ?_⟩
  · have h : PcAt (w.alloc (.cells #[.int .i64 x.c, .int .i64 x.l, .int .i64 x.m, .string ⟨x.t.toArray⟩] 31)) w.heap.size 0 x := by unfold PcAt; simp
    exact h.other ((Only.alloc Nob _ _).nob (Only.alloc Nob _ _)) (fun h => h)
  · generalize hA : w.alloc (.cells #[.int .i64 x.c, .int .i64 x.l, .int .i64 x.m, .string ⟨x.t.toArray⟩] 31) = wA
    have hz : wA.heap.size = w.heap.size + 1 := by rw [← hA]; simp
    have h := BRow.new wA n
    rw [← hz]
    exact h.other (Only.alloc Nob _ _) (fun h => h)
  · generalize hA : (w.alloc (.cells #[.int .i64 x.c, .int .i64 x.l, .int .i64 x.m, .string ⟨x.t.toArray⟩] 31)).alloc (.cells (Array.replicate n (Value.bool false)) 4) = wA
    have hz : wA.heap.size = w.heap.size + 1 + 1 := by rw [← hA]; simp
    have h := Boxed.new wA 91 (.slice (some ⟨w.heap.size + 1, 0, none⟩) n n)
    rw [← hz]
    exact h

/-- Between two rounds of the loop over the iterator. -/
def RchI {n : Nat} (g2 : Nat) (W0 : World) (row : List Bool) (pre : List (EndA n)) (W : World) : Prop :=
  BRow W g2 (marks (pre.map (·.1)) row) ∧ Only (fun i => i = g2 ∨ W0.heap.size ≤ i) W0 W

theorem rchI_own {n : Nat} (g2 : Nat) (W0 : World) (row : List Bool) (_h : g2 < W0.heap.size) : OwnFrom W0.heap.size (RchI (n := n) g2 W0 row) := fun s W W' r hs hg hr => by
  obtain ⟨h1, h2⟩ := hs
  exact ⟨h1.other (grown_only hg) (not_row (fun q e => (hr q e).2) ⟨_, h1, rfl⟩), h2.trans (grown_only hg) (fun k _ hk => .inr (hr k hk).1)⟩

set_option maxRecDepth 100000 in
set_option maxHeartbeats 4000000 in
theorem reach_any (v : Value) (p : List Pc) (s : List UInt8) (f : Nat) (w : World) (hp : Pcs w v p) (hg : Fair p) (hs : s.length ≤ 1000) (hf : f ≤ s.length) :
    Calls Tryd.prog 64 #[v, .string ⟨s.toArray⟩, .int .i64 f] w fun e w' => ∃ g, e = .returned (.slice (some ⟨g, 0, none⟩) (s.length + 1) (s.length + 1)) ∧ BRow w' g (reachL p s f) ∧ Only Nob w w' := by
  obtain ⟨ao, cap, rfl⟩ := hp.form
  have hlen := hg.1
  refine (callsIn_wide (n := 10)).1 ?_
  refine callsIn_of_wp_marks Tryd.func64 rfl trivial ?_ rfl
  simp only [Tryd.ntmps64, List.size_toArray, List.length_cons, List.length_nil, Nat.reduceAdd, Nat.reduceSub, Array.replicate_succ, Array.replicate_zero, List.push_toArray, List.append_toArray, List.nil_append, List.cons_append]
  refine wpIn_wide.2 ?_
  have mk0 := fun w => run_bools w (s.length + 1) (by omega)
  simp only [show ((s.length + 1 : Nat) : Int) = (s.length : Int) + 1 by omega] at mk0
  have mk := mk0 w
  have MK := Lib.hid mk0
  have hw1 : IntKind.i64.wrap ((s.length : Int) + 1) = (s.length : Int) + 1 := IntWalk.i64_in _ (by omega)
  have hb0 := BRow.new w (s.length + 1)
  have oA : Only Nob w (w.alloc (.cells (Array.replicate (s.length + 1) (Value.bool false)) 4)) := Only.alloc _ _ _
  generalize w.alloc (.cells (Array.replicate (s.length + 1) (Value.bool false)) 4) = wA at mk hb0 oA
  have hfr := hb0.free f
  have hce := hb0.cell (i := f) (by simp; omega)
  have hf2 : (f : Int) < (s.length : Int) + 1 := by omega
  have hf3 : f < s.length + 1 := by omega
  have hb1 := hb0.set f true
  have oB : Only Nob w (wA.setCell ⟨w.heap.size, f, none⟩ (.bool true)) := oA.trans (Only.setCell (S := fun k => w.heap.size ≤ k) wA ⟨w.heap.size, f, none⟩ _ (Nat.le_refl _)) (fun i hi h => absurd hi (Nat.not_lt.2 h))
  have HB := Lib.hid (And.intro hb1 oB)
  clear mk0 hb0 oA hb1 oB
  go_wp2_with fail
  refine wp_loop (RchO w p s f ao cap) (fun a _ => p.length - (intOf (a.tmps.getD 23 undef)).toNat) ?start ?round
  case start => exact ⟨0, w.heap.size, [], undef, undef, undef, undef, undef, undef, undef, undef, undef, undef, undef, undef, undef, undef, undef, undef, undef, undef, undef, undef, undef, undef, undef, undef, undef, undef, undef, undef, undef, undef, undef, undef, rfl, Nat.zero_le _, HB.out.1, HB.out.2, trivial, Nat.le_refl _⟩
  case round =>
    rintro a wr ⟨j, g, ds, u9, u10, u11, u12, u13, u24, u25, u26, u27, u28, u29, u30, u31, u32, u33, u34, u35, u36, u37, u38, u39, u40, u41, u42, u43, u44, u45, u46, u47, u48, u49, u50, rfl, hj, hrow, hon, hmk, hgw⟩
    clear HB hfr hce mk
    by_cases hlt : j < p.length
    · have hxo := hg.2 _ (List.getElem_mem hlt)
      obtain ⟨b, off, rfl, hb, e0, e1, e2, e3⟩ := (hp.nob hon).at hlt
      have hst := Lib.hid (show reachL (p.take (j + 1)) s f = stepL p[j] s (reachL (p.take j) s f) by rw [List.take_succ_eq_append_getElem hlt, reachL_snoc])
      have hnl := length_reachL (p.take j) s f
      generalize reachL (p.take j) s f = now at hrow hst hnl
      generalize p[j] = x at hxo hst e0 e1 e2 e3
      obtain ⟨c, l', m, t⟩ := x
      simp only at e0 e1 e2 e3
      have kk : (j : Int) < (p.length : Int) := by omega
      have mk := MK.out (wr.alloc (.cells #[.int .i64 c, .int .i64 l', .int .i64 m, .string ⟨t.toArray⟩] 31))
      have HO := Lib.hid hon
      go_wp2_with fail
      have hW : ((wr.alloc (.cells #[.int .i64 c, .int .i64 l', .int .i64 m, .string ⟨t.toArray⟩] 31)).alloc (.cells (Array.replicate (s.length + 1) (Value.bool false)) 4)).alloc (.cells #[.slice (some ⟨wr.heap.size + 1, 0, none⟩) (s.length + 1) (s.length + 1)] 91) = rchW wr ⟨c, l', m, t⟩ (s.length + 1) := rfl
      obtain ⟨hz, oW, pW, bW, xW⟩ := rchW_at wr ⟨c, l', m, t⟩ (s.length + 1)
      rw [hW]
      clear hW mk
      generalize rchW wr ⟨c, l', m, t⟩ (s.length + 1) = w2 at hz oW pW bW xW ⊢
      have hgl := hrow.lt
      have hwl := hon.size
      have hrow2 := hrow.other oW (fun h => h)
      have hmk2 := (Marks.other oW hmk (fun _ h => h.elim) (Nat.le_refl _)).up oW.size
      have hon2 := hon.nob oW
      refine wp_loop (RchN w p s f (some ⟨b, off, none⟩) cap ⟨c, l', m, t⟩ now j g (wr.heap.size + 1) (wr.heap.size + 1 + 1) wr.heap.size (.bool true) (.pointer (some ⟨b, off + j * 4, none⟩)) (.agg #[.int .i64 c, .int .i64 l', .int .i64 m, .string ⟨t.toArray⟩]) (.string ⟨s.toArray⟩) (.int .i64 s.length) (.int .i64 ((s.length : Int) + 1)) (.slice (some ⟨wr.heap.size + 1, 0, none⟩) (s.length + 1) (s.length + 1)) u49 u50) (fun a _ => s.length + 1 - (intOf (a.tmps.getD 33 undef)).toNat) ?start2 ?round2
      case start2 => exact ⟨0, ds, _, _, _, _, _, _, _, _, _, _, _, _, _, _, _, _, _, _, rfl, Nat.zero_le _, hrow2, bW, xW, pW, hon2, hmk2, by omega, by omega, by omega, by omega⟩
      case round2 =>
        clear hmk hrow hrow2 hmk2 hon2 bW pW xW oW hon e0 e1 e2 e3
        rintro a w3 ⟨k, ds, u11, u12, u13, u34, u35, u36, u37, u38, u39, u40, u41, u42, u43, u44, u45, u46, u47, u48, rfl, hk, hrow, hnx, hbx, hpx, hon, hmk, hg2⟩
        by_cases hkn : k < s.length + 1
        · have hkk : (k : Int) < (s.length : Int) + 1 := by omega
          have hcell := hrow.cell (i := k) (by omega)
          have hgd : now.getD k false = now[k] := getD_lt _ (by omega)
          have hsk := stepF_succ ⟨c, l', m, t⟩ s now k
          rw [hgd] at hsk
          have HSK := Lib.hid hsk
          clear hsk hgd
          cases hbk : now[k]
          · rw [hbk] at hcell HSK
            clear hbk
            go_wp2_with fail
            refine ⟨⟨k + 1, ds, _, _, _, _, _, _, _, _, _, _, _, _, _, _, _, _, _, _, by first | rfl | simp, by omega, hrow, by rw [HSK.out]; exact hnx, hbx, hpx, hon, hmk, hg2⟩, by simp [intOf]; omega⟩
          · rw [hbk] at hcell HSK
            clear hbk
            obtain ⟨x0, x1, x2, x3⟩ := hpx
            have HPX := Lib.hid (show PcAt w3 wr.heap.size 0 ⟨c, l', m, t⟩ from ⟨x0, x1, x2, x3⟩)
            simp only [Nat.zero_add] at x1 x2 x3
            go_wp2_with fail
            refine (ends_any ⟨c, l', m, t⟩ s k _).mono ?_
            rintro e w' ⟨rfl, rfl⟩
            go_wp2_with fail
            obtain ⟨hz4, o4, -⟩ := endsW_at w3 ⟨c, l', m, t⟩ s k
            have hon4 := hon.nob o4
            have hrow4 := hrow.other o4 (fun h => h)
            have hnx4 := hnx.other o4 (fun h => h)
            have hbx4 : Boxed _ _ _ _ := (o4.block _ hbx.lt (fun h => h)).trans hbx
            have hpx4 := HPX.out.other o4 (fun h => h)
            have hmk4 := (Marks.other o4 hmk (fun _ h => h.elim) (Nat.le_refl _)).up o4.size
            have hst4 := ends_stops ⟨c, l', m, t⟩ s k (fun i => i = wr.heap.size + 1 ∨ (endsW w3 ⟨c, l', m, t⟩ s k).heap.size ≤ i) w3 hxo hs (by omega) (fun i hi => by
              rcases hi with h | h
              · have := hnx.lt; omega
              · omega)
            have hng := hnx.lt
            generalize endsW w3 ⟨c, l', m, t⟩ s k = w4 at hz4 o4 hon4 hrow4 hnx4 hbx4 hpx4 hmk4 hst4 ⊢
            clear x0 x1 x2 x3 HPX hcell
            refine wpIn_wide.1 (?_ : Code.wpIn Fence.wide 10 _ _ _ _ _)
            refine (?_ : ∀ A : Act, A = _ → Code.wpIn Fence.wide 10 _ _ _ A _) _ rfl
            intro A hA
            refine wpIn_rangeFunc_ownF rfl (by decide) (gf := 130) (lb := #[.pointer (some ⟨w3.heap.size, 0, none⟩), .pointer (some ⟨w3.heap.size + 1, 0, none⟩), .pointer (some ⟨w3.heap.size + 1 + 1, 0, none⟩)]) (by rw [hA]; rfl) trivial (enters_of Tryd.func130 (by kernel_rfl) rfl)
              hst4 (fun h k => h.trans k (fun _ _ h => h)) (fun W l o o' hl _ _ _ => only_putObj W l o' (.inr (by omega))) (Below.refl _ _) (fun _ => rfl)
              (RchI (wr.heap.size + 1) w4 (stepF ⟨c, l', m, t⟩ s now k)) (fun _ _ _ => False) (rchI_own _ _ _ (by omega)) (fun _ _ _ _ _ h _ _ => h) ⟨hnx4, Only.refl _ _⟩
              (fun x => { tmps := (A.tmps.setIfInBounds 44 (.int .i64 (x.1 : Nat))).setIfInBounds 13 (.int .i64 (x.1 : Nat)), defers := [] }) ?assign ?body ?done ?stop
            case assign =>
              intro l x W K hK
              subst hA
              simp only [List.setIfInBounds_toArray, List.set_cons_zero, List.set_cons_succ] at hK
              dsimp only [endV]
              gi_wp2
              exact hK
            case body =>
              rintro l pre ⟨e, he⟩ W ⟨hr, hO⟩ hlen
              subst hA
              simp only [List.setIfInBounds_toArray, List.set_cons_zero, List.set_cons_succ]
              have hbW : W.cell? ⟨wr.heap.size + 1 + 1, 0, none⟩ = some (.slice (some ⟨wr.heap.size + 1, 0, none⟩) (s.length + 1) (s.length + 1)) := (hO.cell (a := ⟨wr.heap.size + 1 + 1, 0, none⟩) hbx4.lt (fun h => by
                have := hbx4.lt
                rcases h with h | h
                · have h : wr.heap.size + 1 + 1 = wr.heap.size + 1 := h
                  omega
                · have h : w4.heap.size ≤ wr.heap.size + 1 + 1 := h
                  omega)).trans hbx4.cell
              have hl : (marks (pre.map (·.1)) (stepF ⟨c, l', m, t⟩ s now k)).length = s.length + 1 := by rw [length_marks, length_stepF]
              have hce := hr.cell (i := e) (by omega)
              have hfe := hr.free e
              have he1 : (e : Int) < (s.length : Int) + 1 := by omega
              have he2 : e < s.length + 1 := by omega
              have HR := Lib.hid (hr.set e true)
              have HO2 := Lib.hid hO
              have HC := Lib.hid (show ∃ o : Obj, W.heap[wr.heap.size + 1]? = some o ∧ o.isCells = true from ⟨_, hr, rfl⟩)
              generalize (marks (pre.map (·.1)) (stepF ⟨c, l', m, t⟩ s now k))[e]'(by omega) = ob at hce
              clear hr hO hl
              gi_wp2
              have oS : Only (Is (wr.heap.size + 1)) W (W.setCell ⟨wr.heap.size + 1, e, none⟩ (.bool true)) := Only.setCell _ _ _ rfl
              refine ⟨keeps_only oS (fun i hi _ => by obtain rfl : i = wr.heap.size + 1 := hi; exact HC.out), oS.mono (fun i _ hi => .inl hi), ?_, HO2.out.trans oS (fun i _ hi => .inl hi)⟩
              rw [List.map_append, List.map_cons, List.map_nil, marks_snoc]
              exact HR.out
            case done =>
              intro D ys W hD hS ⟨hr, hO⟩ hK
              subst hA
              have hS' : ys.map (·.1) = endsL ⟨c, l', m, t⟩ s k := hS
              rw [hS'] at hr
              have hg4 : ¬ (g = wr.heap.size + 1 ∨ w4.heap.size ≤ g) := fun h => by have := hrow4.lt; omega
              have hB4 : ¬ (wr.heap.size + 1 + 1 = wr.heap.size + 1 ∨ w4.heap.size ≤ wr.heap.size + 1 + 1) := fun h => by have := hbx4.lt; omega
              have hX4 : ¬ (wr.heap.size = wr.heap.size + 1 ∨ w4.heap.size ≤ wr.heap.size) := fun h => by have := hpx4.lt; omega
              have hRow := hrow4.other hO hg4
              have hBox : Boxed W (wr.heap.size + 1 + 1) 91 _ := (hO.block _ hbx4.lt hB4).trans hbx4
              have hPx := hpx4.other hO hX4
              have hMk := Marks.other hO hmk4 (fun i hi hl o ho => by
                rcases hi with h | h
                · subst h
                  rw [hnx4] at ho
                  obtain rfl := Option.some.inj ho
                  rfl
                · omega) (Nat.le_refl _)
              have hOn : Only Nob w W := hon4.trans hO (fun i hi h => by
                rcases h with h | h
                · omega
                · have := hon4.size; omega)
              have hz5 := hon4.size
              have HSR := Lib.hid HSK.out
              rw [if_pos trivial] at HSR
              have hr2 := Lib.hid hr
              clear hr hS hS' hnx hbx hpx4 hrow hmk
              go_wp2_with fail
              refine ⟨⟨k + 1, { target := .collected D, args := #[] } :: ds, _, _, _, _, _, _, _, _, _, _, _, _, _, _, _, _, _, _, by first | rfl | simp, by omega, hRow, by rw [HSR.out]; exact hr2.out, hBox, hPx, hOn, ⟨D, rfl, by omega, lt_of_heap hK, hK, hMk.up hD⟩, hg2⟩, by simp [intOf]; omega⟩
            case stop =>
              intro D c pre W _ _ h _
              exact h.elim
        · obtain rfl : k = s.length + 1 := by omega
          have hcb := hbx.cell
          have HF := Lib.hid (show BRow w3 (wr.heap.size + 1) (reachL (p.take (j + 1)) s f) by rw [hst.out]; exact hnx)
          clear hnx hrow hpx
          go_wp2_with fail
          refine ⟨⟨j + 1, wr.heap.size + 1, ds, _, _, _, _, _, _, _, _, _, _, _, _, _, _, _, _, _, _, _, _, _, _, _, _, _, _, _, _, _, _, _, _, by first | rfl | simp, by omega, HF.out, hon, hmk, by omega⟩, by simp [intOf]; omega⟩
    · obtain rfl : j = p.length := by omega
      rw [List.take_of_length_le (Nat.le_refl _)] at hrow
      have HO := Lib.hid hon
      clear hon
      go_wp2_with fail
      refine leaves_marks ds wr.heap.size wr hmk (Nat.le_refl _) (fun w' o => ?_)
      refine ⟨_, results_tmp rfl _ _ _, g, rfl, hrow.other o (fun h => ?_), HO.out.trans o (fun i hi h => absurd hi (Nat.not_lt.2 h.1))⟩
      have := h.2.2 _ hrow
      cases this

end Go.Proofs.YtddjbfmohibgbaaDoor

/- Matches: the program's function. -/
namespace Go.Proofs.YtddjbfmohibgbaaDoor
open Go.RowKit

set_option maxRecDepth 100000 in
set_option maxHeartbeats 2000000 in
theorem matches_any (v : Value) (p : List Pc) (s : List UInt8) (w : World) (hp : Pcs w v p) (hg : Fair p) (ht : Tab w) (hs : s.length ≤ 9223372036854775807) : Calls Tryd.prog 26 #[v, .string ⟨s.toArray⟩] w (BoolPost (matchB p s) w) := by
  have R := Lib.hid (right_any v p w hp hg ht)
  have T := Lib.hid (fun w => text_any ⟨s.toArray⟩ w hs)
  have e1 : (⟨s.toArray⟩ : ByteArray).data.toList = s := rfl
  rw [e1] at T
  clear e1
  cases hr : rightB p
  · have HE : Hid (matchB p s = false) := by show _ = _; unfold matchB; rw [hr]; rfl
    rw [hr] at R
    clear hr
    go_enter Tryd.func26, Tryd.ntmps26
    go_wp2_with (go_at_call 57; refine R.out.mono ?_; rintro e w2 ⟨rfl, o2⟩)
    go_ret
    exact ⟨ret_bool HE.out.symm, o2⟩
  cases hx : textB s
  · have HE : Hid (matchB p s = false) := by show _ = _; unfold matchB; rw [hr, hx]; rfl
    rw [hr] at R
    rw [hx] at T
    clear hr hx
    go_enter Tryd.func26, Tryd.ntmps26
    go_wp2_with fail
    refine R.out.mono ?_
    rintro e w2 ⟨rfl, o2⟩
    go_wp2_with fail
    refine (T.out _).mono ?_
    rintro e w3 ⟨rfl, o3⟩
    go_wp2
    go_ret
    exact ⟨ret_bool HE.out.symm, o2.nob o3⟩
  · have HE : Hid (matchB p s = (reachL p s 0).getD s.length false) := by show _ = _; unfold matchB; rw [hr, hx]; rfl
    have hl : s.length ≤ 200 := by
      unfold textB at hx
      simp only [Bool.and_eq_true, decide_eq_true_eq] at hx
      exact hx.1
    have RC := Lib.hid (fun w2 (o2 : Only Nob w w2) => reach_any v p s 0 w2 (hp.nob o2) hg (by omega) (Nat.zero_le _))
    rw [hr] at R
    rw [hx] at T
    clear hr hx
    go_enter Tryd.func26, Tryd.ntmps26
    go_wp2_with fail
    refine R.out.mono ?_
    rintro e w2 ⟨rfl, o2⟩
    go_wp2_with fail
    refine (T.out _).mono ?_
    rintro e w3 ⟨rfl, o3⟩
    go_wp2_with fail
    refine (RC.out _ (o2.nob o3)).mono ?_
    rintro e w4 ⟨g, rfl, hrow, o4⟩
    have hlr := length_reachL p s 0
    have hce := hrow.cell (i := s.length) (by omega)
    have hv : (reachL p s 0).getD s.length false = (reachL p s 0)[s.length]'(by omega) := getD_lt _ (by omega)
    rw [← hv] at hce
    have h1 : s.length < s.length + 1 := by omega
    have h2 : (s.length : Int) < (s.length : Int) + 1 := by omega
    clear hv hrow hlr
    generalize (reachL p s 0).getD s.length false = bb at hce HE
    go_wp2
    go_ret
    exact ⟨ret_bool HE.out.symm, (o2.nob o3).nob o4⟩

end Go.Proofs.YtddjbfmohibgbaaDoor
