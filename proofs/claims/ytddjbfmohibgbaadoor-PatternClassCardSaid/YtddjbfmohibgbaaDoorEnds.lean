/- The iterator over the offsets at which a piece can end: its contract. -/
import Derived.Test.YtddjbfmohibgbaaDoorPcs
import Derived.Test.YtddjbfmohibgbaaDoorMat
import Derived.RangeFuncNested
import Derived.RangeFuncBound
import Derived.RangeFuncCalls
import Derived.RangeFuncLeaves
import Derived.RangeFuncBox
import Derived.Shelf.Abstract
import Derived.Shelf.RegionOpen
import Derived.WalkKit
import Derived.OwnWalkIn
import Derived.TacticsInMore
import Derived.LoopNIn
import Derived.LoopIn
import Derived.Deep.RegionHeld3
import Derived.Lib.IndexBytes
namespace Go.Proofs.YtddjbfmohibgbaaDoor
open Go.RowKit Go.Shelf

attribute [local go_sem] Oper.semAt_some

/-- An offset that is handed over. -/
abbrev EndA (n : Nat) := { e : Nat // e ≤ n }
def endV {n : Nat} (e : EndA n) : Array Value := #[.int .i64 (e.1 : Nat)]

def EndRel (x : Pc) (s : List UInt8) (k : Nat) (S : Nat → Prop) (J : List (EndA s.length) → World → Prop) (W0 : World) (iv : Value) (wr : World) : Prop :=
  ∃ (pre : List (EndA s.length)) (n f : Nat), iv = .int .i64 n ∧ k + n ≤ s.length + 1 ∧ s.length + 2 ≤ f + n ∧ endsL x s k = pre.map (·.1) ++ runL x s k f n ∧ J pre wr ∧ Only S W0 wr

theorem slice_from (s : List UInt8) (k : Nat) (h : k ≤ s.length) (w : World) : (Instr.slice 9 (.string ⟨s.toArray⟩) (some (.int .i64 (k : Int))) none none).run Tryd.prog w = .ok (.string ⟨(s.drop k).toArray⟩) w := by
  have hs : (⟨s.toArray⟩ : ByteArray).size = s.length := rfl
  have h1 := run_slice_string_from_if (P := Tryd.prog) (w := w) 9 ⟨s.toArray⟩ .i64 (k : Int) Tryd.underlying9
  rw [h1, if_pos ⟨by omega, by rw [hs]; omega⟩]
  have e : (⟨s.toArray⟩ : ByteArray).extract ((k : Int)).toNat (⟨s.toArray⟩ : ByteArray).size = ⟨(s.drop k).toArray⟩ := by
    apply str_eq
    rw [Lib.extract_to_end, Int.toNat_natCast]
  rw [e]

theorem index_at (s : List UInt8) (q : Nat) (h : q < s.length) (w : World) : (Instr.index 9 (.string ⟨s.toArray⟩) (.int .i64 (q : Int))).run Tryd.prog w = .ok (.int .u8 s[q].toNat) w := by
  have hs : (⟨s.toArray⟩ : ByteArray).size = s.length := rfl
  have h1 := run_index_string (P := Tryd.prog) (w := w) 9 ⟨s.toArray⟩ .i64 (q : Int) Tryd.underlying9
  rw [h1, dif_pos ⟨by omega, by rw [hs]; omega⟩]
  rfl

set_option maxRecDepth 100000 in
set_option maxHeartbeats 2000000 in
theorem ends1 (l Bx Bs Bf k : Nat) (x : Pc) (s : List UInt8) (S : Nat → Prop) (J Jx : List (EndA s.length) → World → Prop) (W : World) (hx : PcOk x) (hs : s.length ≤ 1000) (hk : k ≤ s.length)
    (hbx : ¬ S Bx) (hbs : ¬ S Bs) (hbf : ¬ S Bf) (cx : PcAt W Bx 0 x) (cs : W.cell? ⟨Bs, 0, none⟩ = some (.string ⟨s.toArray⟩)) (cf : W.cell? ⟨Bf, 0, none⟩ = some (.int .i64 k))
    (hJ : AbidesFrom W.heap.size J)
    (hY : ∀ pre y W1, J pre W1 → pre.length < 1003 → YieldAt Fence.wide 8 Tryd.prog l (endV y) W1 fun e W' =>
      (e = .returned (.bool true) ∧ J (pre ++ [y]) W' ∧ Only S W1 W') ∨ (e = .returned (.bool false) ∧ Jx (pre ++ [y]) W'))
    (h0 : J [] W) :
    CallsIn Fence.wide 9 Tryd.prog 130 #[.func (.yield l) #[] #[], .pointer (some ⟨Bx, 0, none⟩), .pointer (some ⟨Bs, 0, none⟩), .pointer (some ⟨Bf, 0, none⟩)] W fun r W' => (∃ v, r = .returned v) ∧
      ((∃ ys, ys.map (·.1) = endsL x s k ∧ J ys W') ∨ (∃ pre, pre.map (·.1) <+: endsL x s k ∧ Jx pre W')) := by
  obtain ⟨c, lo, m, t⟩ := x
  obtain ⟨hx1, hx2, hx3, hx4⟩ := hx
  simp only at hx1 hx2 hx3 hx4
  have hK := Lib.hid (show ∀ w', Only S W w' → PcAt w' Bx 0 ⟨c, lo, m, t⟩ ∧ w'.cell? ⟨Bs, 0, none⟩ = some (.string ⟨s.toArray⟩) ∧ w'.cell? ⟨Bf, 0, none⟩ = some (.int .i64 k) from fun w' o =>
    ⟨cx.other o hbx, (o.cell (a := ⟨Bs, 0, none⟩) (World.block_lt_of_cell? W _ cs) hbs).trans cs, (o.cell (a := ⟨Bf, 0, none⟩) (World.block_lt_of_cell? W _ cf) hbf).trans cf⟩)
  have hKc := Lib.hid (show ∀ w', Only S W w' → w'.cell? ⟨Bx, 0, none⟩ = some (.int .i64 c) ∧ w'.cell? ⟨Bx, 1, none⟩ = some (.int .i64 lo) ∧ w'.cell? ⟨Bx, 2, none⟩ = some (.int .i64 m) ∧ w'.cell? ⟨Bx, 3, none⟩ = some (.string ⟨t.toArray⟩) from fun w' o => (hK.out w' o).1)
  by_cases hc : c = 0
  · subst hc
    obtain ⟨e0, e1, e2, e3⟩ := hKc.out W (Only.refl _ _)
    refine callsIn_of_wp Tryd.func130 rfl trivial ?_ rfl
    simp only [Tryd.ntmps130, List.size_toArray, List.length_cons, List.length_nil, Nat.reduceAdd, Nat.reduceSub, Array.replicate_succ, Array.replicate_zero, List.push_toArray, List.append_toArray, List.nil_append, List.cons_append]
    gi_wp2
    refine wpIn_wide.2 ?_
    have sl := slice_from s k hk
    have HPx := Lib.hid (show ∀ w, Calls Tryd.prog 86 #[.string ⟨(s.drop k).toArray⟩, .string ⟨t.toArray⟩] w fun e w' => e = .returned (.bool (t.isPrefixOf (s.drop k))) ∧ w' = w from fun w => Tryd.strings_HasPrefix _ _ w)
    have hz : IntKind.i64.wrap ((k : Int) + (t.length : Int)) = ((k + t.length : Nat) : Int) := by rw [IntWalk.i64_in _ (by omega)]; omega
    have jd := hJ [] W W.drew none h0 (grown_of_only (Only.drew Nob W)) (fun _ h => by cases h)
    have kd := hKc.out W.drew (Only.drew S W)
    cases hb : t.isPrefixOf (s.drop k)
    · rw [hb] at HPx
      have HE := Lib.hid (show endsL ⟨0, lo, m, t⟩ s k = [] by unfold endsL; rw [if_pos rfl, hb]; rfl)
      clear hb
      go_region_held3 (fun w' => w'.cell? ⟨Bs, 0, none⟩ = some (.string ⟨s.toArray⟩) ∧ w'.cell? ⟨Bf, 0, none⟩ = some (.int .i64 k) ∧ w'.cell? ⟨Bx, 3, none⟩ = some (.string ⟨t.toArray⟩))
        (first | exact ⟨cs, cf, e3⟩ | fail)
        (first
          | (go_at_call 86; (with_reducible refine (HPx.out _).mono ?_); rintro e w' ⟨rfl, rfl⟩)
          | fail)
      gi_wp2
      refine bodyPost_ret (results_none rfl _ _ _) rfl ?_
      exact ⟨⟨_, rfl⟩, .inl ⟨[], by rw [HE.out]; rfl, jd⟩⟩
    · rw [hb] at HPx
      have hle := prefix_le hb hk
      have HE := Lib.hid (show endsL ⟨0, lo, m, t⟩ s k = [k + t.length] by unfold endsL; rw [if_pos rfl, hb]; rfl)
      clear hb
      go_region_held3 (fun w' => w'.cell? ⟨Bs, 0, none⟩ = some (.string ⟨s.toArray⟩) ∧ w'.cell? ⟨Bf, 0, none⟩ = some (.int .i64 k) ∧ w'.cell? ⟨Bx, 3, none⟩ = some (.string ⟨t.toArray⟩))
        (first | exact ⟨cs, cf, e3⟩ | fail)
        (first
          | (go_at_call 86; (with_reducible refine (HPx.out _).mono ?_); rintro e w' ⟨rfl, rfl⟩)
          | fail)
      obtain ⟨fn, tmps, assign, body, hy, hR⟩ := hY [] ⟨k + t.length, hle⟩ W.drew jd (by simp)
      dsimp only [endV] at hy
      rw [show ((k + t.length : Nat) : Int) = (k : Int) + (t.length : Int) by omega] at hy
      gi_wp2_with fail
      refine hR.mono ?_
      rintro r w3 (⟨rfl, hJ3, hk3⟩ | ⟨rfl, hx3⟩)
      · gi_wp2
        refine bodyPost_ret (results_none rfl _ _ _) rfl ?_
        exact ⟨⟨_, rfl⟩, .inl ⟨_, by rw [HE.out]; rfl, hJ3⟩⟩
      · gi_wp2
        refine bodyPost_ret (results_none rfl _ _ _) rfl ?_
        exact ⟨⟨_, rfl⟩, .inr ⟨_, by rw [HE.out]; exact List.prefix_refl _, hx3⟩⟩
  · have c0 : (c == 0) = false := by simp; omega
    have HE := Lib.hid (show endsL ⟨c, lo, m, t⟩ s k = runL ⟨c, lo, m, t⟩ s k (s.length + 2) 0 by unfold endsL; rw [if_neg hc])
    obtain ⟨e0, e1, e2, e3⟩ := hKc.out W (Only.refl _ _)
    refine callsIn_of_wp Tryd.func130 rfl trivial ?_ rfl
    simp only [Tryd.ntmps130, List.size_toArray, List.length_cons, List.length_nil, Nat.reduceAdd, Nat.reduceSub, Array.replicate_succ, Array.replicate_zero, List.push_toArray, List.append_toArray, List.nil_append, List.cons_append]
    clear hc
    gi_wp2
    gi_loopw [5] (fun p wr => EndRel ⟨c, lo, m, t⟩ s k S J W p wr) (fun p _ => s.length + 2 - (intOf p).toNat)
    case atStart => exact ⟨[], 0, s.length + 2, rfl, by omega, by omega, by rw [HE.out]; rfl, h0, Only.refl _ _⟩
    case round =>
      obtain ⟨pre, n, f, rfl, g1, g2, g3, g4, g5⟩ := hrel
      clear e0 e1 e2 e3 h0 HE
      obtain ⟨e0, e1, e2, e3⟩ := hKc.out wr g5
      obtain ⟨-, cs1, cf1⟩ := hK.out wr g5
      have hts : (⟨s.toArray⟩ : ByteArray).size = s.length := rfl
      have G3 := Lib.hid g3
      have G5 := Lib.hid g5
      clear g3 g5
      have hw1 : IntKind.i64.wrap ((k : Int) + (n : Int)) = (k : Int) + (n : Int) := IntWalk.i64_in _ (by omega)
      by_cases hm : (n : Int) ≤ m
      · by_cases hn : k + n ≤ s.length
        · have hn' : (k : Int) + (n : Int) ≤ (s.length : Int) := by omega
          obtain ⟨f, rfl⟩ : ∃ f', f = f' + 1 := ⟨f - 1, by omega⟩
          have hpl : pre.length + 1 ≤ 1002 ∨ ¬ lo ≤ (n : Int) ∨ (0 < n ∧ cin (cls (s.getD (k + n - 1) 0)) c = false) := by
            by_cases hl : lo ≤ (n : Int)
            · by_cases hb : 0 < n ∧ cin (cls (s.getD (k + n - 1) 0)) c = false
              · exact .inr (.inr hb)
              · left
                have h := endsL_len ⟨c, lo, m, t⟩ s k
                rw [G3.out, runL_go ⟨hm, hn⟩ hb, if_pos hl] at h
                simp at h
                omega
            · exact .inr (.inl hl)
          have HPL := Lib.hid hpl
          clear hpl
          by_cases hn0 : n = 0
          case' pos =>
            subst hn0
            have HG := Lib.hid (G3.out.trans (congrArg (pre.map (·.1) ++ ·) (runL_go (f := f) ⟨hm, hn⟩ (by omega))))
            have HNB := Lib.hid (show ¬ (0 < 0 ∧ cin (cls (s.getD (k + 0 - 1) 0)) c = false) by omega)
            gi_wp2_with fail
            refine wpIn_wide.2 ?_
            go_quiet (fail)
            obtain ⟨w2, hw2⟩ : ∃ w2 : World, w2 = wr.drewN nq := ⟨_, rfl⟩
            have oq : Only Nob wr w2 := by rw [hw2]; exact Only.drewN Nob wr nq
            rw [← hw2]
            clear hw2
            have jd := hJ pre wr w2 none g4 (grown_of_only oq) (fun _ h => by cases h)
            have kd := hKc.out w2 (G5.out.trans (oq.mono (fun _ _ h => h.elim)) (fun _ _ h => h))
            obtain ⟨f0, f1, f2, f3⟩ := kd
            obtain ⟨-, cs2, cf2⟩ := hK.out w2 (G5.out.trans (oq.mono (fun _ _ h => h.elim)) (fun _ _ h => h))
            by_cases hl : lo ≤ ((0 : Nat) : Int)
            · have hpl : pre.length < 1003 := by
                rcases HPL.out with h | h | h
                · omega
                · omega
                · exact absurd h HNB.out
              have HG2 : Hid (endsL ⟨c, lo, m, t⟩ s k = pre.map (·.1) ++ ((k + 0) :: runL ⟨c, lo, m, t⟩ s k f (0 + 1))) := by
                have h := HG.out
                rw [if_pos hl] at h
                exact h
              obtain ⟨fn, tmps, assign, body, hy, hR⟩ := hY pre ⟨k + 0, hn⟩ w2 jd hpl
              dsimp only [endV] at hy
              simp only [Nat.add_zero] at hy
              clear HG
              gi_wp2_with fail
              refine hR.mono ?_
              rintro r w3 (⟨rfl, hJ3, hk3⟩ | ⟨rfl, hx3⟩)
              · gi_wp2
                go_roundw
                case rel => exact ⟨pre ++ [⟨k + 0, hn⟩], 0 + 1, f, by go_num, by omega, by omega, by rw [HG2.out]; simp, hJ3, (G5.out.trans (oq.mono (fun _ _ h => h.elim)) (fun _ _ h => h)).trans hk3 (fun _ _ h => h)⟩
                case measure => first | (simp [intOf]; done) | (simp [intOf]; omega)
              · gi_wp2
                refine bodyPost_ret (results_none rfl _ _ _) rfl ?_
                exact ⟨⟨_, rfl⟩, .inr ⟨pre ++ [⟨k + 0, hn⟩], by rw [HG2.out]; exact ⟨runL ⟨c, lo, m, t⟩ s k f (0 + 1), by simp⟩, hx3⟩⟩
            · have hl' : ((0 : Nat) : Int) < lo := by omega
              have HG2 : Hid (endsL ⟨c, lo, m, t⟩ s k = pre.map (·.1) ++ runL ⟨c, lo, m, t⟩ s k f (0 + 1)) := by
                have h := HG.out
                rw [if_neg hl] at h
                exact h
              have hl2 : 0 < lo := by omega
              clear HG
              gi_wp2_with fail
              refine ⟨fun _ h => (by cases h), ?_⟩
              gi_wp2
              go_roundw
              case rel => exact ⟨pre, 0 + 1, f, by go_num, by omega, by omega, HG2.out, jd, G5.out.trans (oq.mono (fun _ _ h => h.elim)) (fun _ _ h => h)⟩
              case measure => first | (simp [intOf]; done) | (simp [intOf]; omega)
          case' neg =>
            have hq : k + n - 1 < s.length := by omega
            obtain ⟨q, hqe⟩ : ∃ q, q = k + n - 1 := ⟨_, rfl⟩
            have hw2 : IntKind.i64.wrap ((k : Int) + (n : Int) - 1) = (q : Int) := by rw [IntWalk.i64_in _ (by omega)]; omega
            have hn1 : (0 : Int) < (n : Int) := by omega
            have hn2 : 0 < n := by omega
            have hql : q < s.length := by omega
            have hix := index_at s q hql
            have hgd : s.getD (k + n - 1) 0 = s[q] := by subst hqe; exact getD_lt _ hq
            clear hqe hq
            gi_wp2_with fail
            refine wpIn_wide.2 ?_
            have jd := hJ pre wr wr.drew none g4 (grown_of_only (Only.drew Nob wr)) (fun _ h => by cases h)
            have CB := Lib.hid (class_any s[q])
            cases hcc : cin (cls s[q]) c
            · have CC := Lib.hid (show ∀ w, Calls Tryd.prog 113 #[.int .i64 (cls s[q]), .int .i64 c] w fun e w' => e = .returned (.bool false) ∧ w = w' from fun w => by have := contained_any (cls s[q]) c w; rw [hcc] at this; exact this)
              rw [runL_bad ⟨by omega, by rw [hgd]; exact hcc⟩, List.append_nil] at G3
              clear hcc hgd
              go_region_held3 (fun w' => w'.cell? ⟨Bs, 0, none⟩ = some (.string ⟨s.toArray⟩) ∧ w'.cell? ⟨Bf, 0, none⟩ = some (.int .i64 k) ∧ w'.cell? ⟨Bx, 0, none⟩ = some (.int .i64 c))
                (first | exact ⟨cs1, cf1, e0⟩ | fail)
                (first
                  | (go_at_call 30; (with_reducible refine (CB.out _).mono ?_); rintro e w' ⟨rfl, rfl⟩)
                  | (go_at_call 113; (with_reducible refine (CC.out _).mono ?_); rintro e w' ⟨rfl, rfl⟩)
                  | fail)
              gi_wp2
              refine bodyPost_ret (results_none rfl _ _ _) rfl ?_
              exact ⟨⟨_, rfl⟩, .inl ⟨pre, G3.out.symm, jd⟩⟩
            have CC := Lib.hid (show ∀ w, Calls Tryd.prog 113 #[.int .i64 (cls s[q]), .int .i64 c] w fun e w' => e = .returned (.bool true) ∧ w = w' from fun w => by have := contained_any (cls s[q]) c w; rw [hcc] at this; exact this)
            have HNB := Lib.hid (show ¬ (0 < n ∧ cin (cls (s.getD (k + n - 1) 0)) c = false) by rw [hgd, hcc]; rintro ⟨_, h⟩; cases h)
            have HG := Lib.hid (G3.out.trans (congrArg (pre.map (·.1) ++ ·) (runL_go (f := f) ⟨hm, hn⟩ HNB.out)))
            clear hcc hgd
            go_region_held3 (fun w' => w'.cell? ⟨Bs, 0, none⟩ = some (.string ⟨s.toArray⟩) ∧ w'.cell? ⟨Bf, 0, none⟩ = some (.int .i64 k) ∧ w'.cell? ⟨Bx, 0, none⟩ = some (.int .i64 c))
              (first | exact ⟨cs1, cf1, e0⟩ | fail)
              (first
                | (go_at_call 30; (with_reducible refine (CB.out _).mono ?_); rintro e w' ⟨rfl, rfl⟩)
                | (go_at_call 113; (with_reducible refine (CC.out _).mono ?_); rintro e w' ⟨rfl, rfl⟩)
                | fail)
            have kd := hKc.out wr.drew (G5.out.trans (Only.drew S wr) (fun _ _ h => h))
            obtain ⟨f0, f1, f2, f3⟩ := kd
            by_cases hl : lo ≤ ((n : Nat) : Int)
            · have hpl : pre.length < 1003 := by
                rcases HPL.out with h | h | h
                · omega
                · omega
                · exact absurd h HNB.out
              have HG2 : Hid (endsL ⟨c, lo, m, t⟩ s k = pre.map (·.1) ++ ((k + n) :: runL ⟨c, lo, m, t⟩ s k f (n + 1))) := by
                have h := HG.out
                rw [if_pos hl] at h
                exact h
              obtain ⟨fn, tmps, assign, body, hy, hR⟩ := hY pre ⟨k + n, hn⟩ wr.drew jd hpl
              dsimp only [endV] at hy
              rw [show ((k + n : Nat) : Int) = (k : Int) + (n : Int) by omega] at hy
              clear HG
              gi_wp2_with fail
              refine hR.mono ?_
              rintro r w3 (⟨rfl, hJ3, hk3⟩ | ⟨rfl, hx3⟩)
              · gi_wp2
                go_roundw
                case rel => exact ⟨pre ++ [⟨k + n, hn⟩], n + 1, f, by go_num, by omega, by omega, by rw [HG2.out]; simp, hJ3, (G5.out.trans (Only.drew S wr) (fun _ _ h => h)).trans hk3 (fun _ _ h => h)⟩
                case measure => simp [intOf]; omega
              · gi_wp2
                refine bodyPost_ret (results_none rfl _ _ _) rfl ?_
                exact ⟨⟨_, rfl⟩, .inr ⟨pre ++ [⟨k + n, hn⟩], by rw [HG2.out]; exact ⟨runL ⟨c, lo, m, t⟩ s k f (n + 1), by simp⟩, hx3⟩⟩
            · have hl' : ((n : Nat) : Int) < lo := by omega
              have HG2 : Hid (endsL ⟨c, lo, m, t⟩ s k = pre.map (·.1) ++ runL ⟨c, lo, m, t⟩ s k f (n + 1)) := by
                have h := HG.out
                rw [if_neg hl] at h
                exact h
              skip
              clear HG
              gi_wp2_with fail
              refine ⟨fun _ h => (by cases h), ?_⟩
              gi_wp2
              go_roundw
              case rel => exact ⟨pre, n + 1, f, by go_num, by omega, by omega, HG2.out, jd, G5.out.trans (Only.drew S wr) (fun _ _ h => h)⟩
              case measure => simp [intOf]; omega
        · have hn' : (s.length : Int) < (k : Int) + (n : Int) := by omega
          rw [runL_stop (by rintro ⟨_, h⟩; exact hn h), List.append_nil] at G3
          gi_wp2
          go_end0
          exact ⟨⟨_, rfl⟩, .inl ⟨pre, G3.out.symm, g4⟩⟩
      · have hm' : m < (n : Int) := by omega
        rw [runL_stop (by rintro ⟨h, _⟩; exact hm h), List.append_nil] at G3
        gi_wp2
        go_end0
        exact ⟨⟨_, rfl⟩, .inl ⟨pre, G3.out.symm, g4⟩⟩

end Go.Proofs.YtddjbfmohibgbaaDoor
