/- The iterator over the records of a journal: its contract. -/
import Derived.Test.YtdpebdghhgojaaaJClone
import Derived.RangeFuncNested
import Derived.RangeFuncBound
import Derived.RangeFuncCalls
import Derived.RangeFuncLeaves
import Derived.RangeFuncBox
import Derived.Shelf.Abstract
import Derived.Shelf.RegionOpen
import Derived.WalkKit
import Derived.OwnWalkIn
import Derived.TacticsInMore
import Derived.LoopNIn
import Derived.LoopIn
namespace Go.Proofs.Ytdpebdghhgojaaa
open Go.RowKit Go.Shelf

attribute [local go_sem] Oper.semAt_some

abbrev Rec := List UInt8 × Bool
/-- A record that is handed over; none is longer than the contents. -/
abbrev RecA := { x : Rec // x.1.length ≤ 16777216 }
def recV (x : RecA) : Array Value := #[.string ⟨x.1.1.toArray⟩, .bool x.1.2]

theorem take_short (c : List UInt8) (hc : c.length ≤ 16777216) (a n : Nat) : ((c.drop a).take n).length ≤ 16777216 := by
  rw [List.length_take, List.length_drop]; omega

def itemsA (c : List UInt8) (hc : c.length ≤ 16777216) (e : Nat) : Nat → Nat → List RecA
  | 0, _ => []
  | k + 1, at_ => if at_ < e then
      (if e < at_ + 4 + valN (c.drop at_) 4 then [⟨([], false), by simp⟩]
       else ⟨((c.drop (at_ + 4)).take (valN (c.drop at_) 4), true), take_short c hc _ _⟩ :: itemsA c hc e k (at_ + 4 + valN (c.drop at_) 4))
    else []

theorem itemsA_val (c : List UInt8) (hc : c.length ≤ 16777216) (e : Nat) : ∀ k at_, (itemsA c hc e k at_).map (·.1) = items c e k at_
  | 0, _ => rfl
  | k + 1, at_ => by
    simp only [itemsA, items]
    split
    · split
      · rfl
      · rw [List.map_cons, itemsA_val c hc e k]
    · rfl

theorem only_of_below {n₀ : Nat} {w w' : World} (h : Below n₀ w w') : Only (fun k => n₀ ≤ k) w w' := Only.of_below h (fun _ _ h => h)
theorem grown_of_only {w w' : World} (h : Only Nob w w') : w.grownBy w' none := ⟨h.os, h.tape, h.output, h.size, fun k hk _ => h.block k hk (fun x => x)⟩
theorem rng_nat {n : Nat} (h : n ≤ 9223372036854775807) : Rng (n : Int) := ⟨by omega, by omega⟩

def RecsRel (d : DS) (hc : d.now.length ≤ 16777216) (S : Nat → Prop) (e : Nat) (its : List RecA) (J : List RecA → World → Prop) (W0 : World) (iv : Value) (wr : World) : Prop :=
  ∃ (pre : List RecA) (at_ k : Nat), iv = .int .i64 at_ ∧ at_ ≤ e ∧ e < at_ + k ∧ its = pre ++ itemsA d.now hc e k at_ ∧ J pre wr ∧ Only S W0 wr

theorem items_len (c : List UInt8) (hc : c.length ≤ 16777216) (e : Nat) : ∀ k at_, (itemsA c hc e k at_).length ≤ k
  | 0, _ => by simp [itemsA]
  | k + 1, at_ => by
    have := items_len c hc e k (at_ + 4 + valN (c.drop at_) 4)
    simp only [itemsA]
    split
    · split
      · simp
      · simp; exact this
    · simp

set_option maxRecDepth 100000 in
set_option maxHeartbeats 1000000 in
theorem recs1 (l Be Bd b e : Nat) (fp S : Nat → Prop) (d : DS) (J Jx : List RecA → World → Prop) (W : World) (he : e ≤ 16777280) (h64 : 64 ≤ e)
    (hc : d.now.length ≤ 16777216) (hd : DiskAt W fp b d) (hfp : ∀ k, fp k → ¬ S k) (hbe : Be < W.heap.size ∧ ¬ S Be) (hbd : Bd < W.heap.size ∧ ¬ S Bd)
    (ce : W.cell? ⟨Be, 0, none⟩ = some (.int .i64 e)) (cd : W.cell? ⟨Bd, 0, none⟩ = some (.pointer (some ⟨b, 0, none⟩)))
    (hJ : AbidesFrom W.heap.size J)
    (hY : ∀ pre x W1, J pre W1 → pre.length < 16777281 → YieldAt Fence.wide 8 Try.prog l (recV x) W1 fun e W' =>
      (e = .returned (.bool true) ∧ J (pre ++ [x]) W' ∧ Only S W1 W') ∨ (e = .returned (.bool false) ∧ Jx (pre ++ [x]) W'))
    (h0 : J [] W) :
    CallsIn Fence.wide 9 Try.prog 66 #[.func (.yield l) #[] #[], .pointer (some ⟨Be, 0, none⟩), .pointer (some ⟨Bd, 0, none⟩)] W fun r W' => (∃ v, r = .returned v) ∧
      ((∃ ys, ys = itemsA d.now hc e (e + 1) 64 ∧ J ys W') ∨ (∃ pre, pre <+: itemsA d.now hc e (e + 1) 64 ∧ Jx pre W')) := by
  refine callsIn_of_wp Try.func66 rfl trivial ?_ rfl
  simp only [Try.ntmps66, List.size_toArray, List.length_cons, List.length_nil, Nat.reduceAdd, Nat.reduceSub, Array.replicate_succ, Array.replicate_zero, List.push_toArray, List.append_toArray, List.nil_append, List.cons_append]
  gi_wp2
  gi_loopw [4] (fun p wr => RecsRel d hc S e (itemsA d.now hc e (e + 1) 64) J W p wr) (fun p _ => e - (intOf p).toNat)
  case atStart => exact ⟨[], 64, e + 1, rfl, h64, by omega, rfl, h0, Only.refl _ _⟩
  case round =>
    obtain ⟨pre, at_, k, rfl, g1, g2, g3, g4, g5⟩ := hrel
    have ce1 := (g5.cell (a := ⟨Be, 0, none⟩) hbe.1 hbe.2).trans ce
    have cd1 := (g5.cell (a := ⟨Bd, 0, none⟩) hbd.1 hbd.2).trans cd
    have d1 : DiskAt wr fp b d := hd.other g5 hfp
    by_cases hlt : at_ < e
    · obtain ⟨k', rfl⟩ : ∃ k', k = k' + 1 := ⟨k - 1, by omega⟩
      obtain ⟨v, hv⟩ : ∃ v, v = valN (d.now.drop at_) 4 := ⟨_, rfl⟩
      have hv4 : v < 4294967296 := by have := valN_lt (d.now.drop at_) 4; rw [← hv] at this; simpa using this
      have hr4 : d.read (at_ : Nat) (4 : Int) = (d.now.drop at_).take 4 := by unfold DS.read; rw [if_neg (by omega)]; rfl
      have hits : itemsA d.now hc e (k' + 1) at_ = if e < at_ + 4 + v then [⟨([], false), by simp⟩] else ⟨((d.now.drop (at_ + 4)).take v, true), take_short d.now hc _ _⟩ :: itemsA d.now hc e k' (at_ + 4 + v) := by
        simp only [itemsA]; rw [if_pos hlt]; subst hv; rfl
      have R4 := Lib.hid <| show ∀ w, DiskAt w fp b d → Calls Try.prog 35 #[.pointer (some ⟨b, 0, none⟩), .int .i64 at_, .int .i64 4] w (ReadPost ((d.now.drop at_).take 4) w) from fun w hw => by
        have h := read_all fp b (at_ : Nat) 4 d w hw (rng_nat (by omega)) (by unfold Rng; omega)
        rw [hr4] at h; exact h
      have V4 := Lib.hid <| show ∀ w, Calls Try.prog 58 #[.string ⟨((d.now.drop at_).take 4).toArray⟩, .int .i64 4] w fun e w' => e = .returned (.int .i64 v) ∧ w = w' from fun w => by
        have h := value_any ⟨((d.now.drop at_).take 4).toArray⟩ 4 w (by omega)
        have e1 : wrap64 (valN (⟨((d.now.drop at_).take 4).toArray⟩ : ByteArray).data.toList 4) = (v : Int) := by
          show wrap64 (valN ((d.now.drop at_).take 4) 4) = _
          rw [valN_take _ 4 4 (Nat.le_refl _), ← hv]; unfold wrap64; omega
        rw [e1] at h; exact h
      have hpl : pre.length < 16777281 := by
        have h1 := items_len d.now hc e (e + 1) 64
        have h2 : 1 ≤ (itemsA d.now hc e (k' + 1) at_).length := by rw [hits]; split <;> simp
        have h3 := congrArg List.length g3
        rw [List.length_append] at h3
        omega
      have G3 := Lib.hid g3
      have HI := Lib.hid hits
      clear hits hv hr4 g3
      have hs1 := g5.size
      gi_wp2_with fail
      refine ⟨trivial, (callsIn_wide.2 (R4.out _ d1)).mono ?_⟩
      rintro r w2 ⟨rfl, o2⟩
      have b2 : Only S W w2 := g5.trans o2 (fun _ _ h => h.elim)
      have ce2 := (b2.cell (a := ⟨Be, 0, none⟩) hbe.1 hbe.2).trans ce
      have cd2 := (b2.cell (a := ⟨Bd, 0, none⟩) hbd.1 hbd.2).trans cd
      have d2 := d1.other o2 (fun _ _ h => h)
      have j2 := hJ pre wr w2 none g4 (grown_of_only o2) (fun _ h => by cases h)
      have hs2 := b2.size
      clear ce1 cd1 d1 g5 g4 o2
      gi_wp2_with fail
      refine ⟨trivial, (callsIn_wide.2 (V4.out _)).mono ?_⟩
      rintro r w' ⟨rfl, rfl⟩
      by_cases hbad : e < at_ + 4 + v
      · rw [if_pos hbad] at HI
        obtain ⟨fn, tmps, assign, body, hy, hR⟩ := hY pre ⟨([], false), by simp⟩ w2 j2 hpl
        dsimp only [recV] at hy
        gi_wp2_with fail
        refine hR.mono ?_
        rintro r w3 (⟨rfl, hJ3, hk3⟩ | ⟨rfl, hx3⟩)
        · gi_wp2
          refine bodyPost_ret (results_none rfl _ _ _) rfl ?_
          exact ⟨⟨_, rfl⟩, .inl ⟨_, by rw [G3.out, HI.out], hJ3⟩⟩
        · gi_wp2
          refine bodyPost_ret (results_none rfl _ _ _) rfl ?_
          exact ⟨⟨_, rfl⟩, .inr ⟨_, by rw [G3.out, HI.out]; exact List.prefix_refl _, hx3⟩⟩
      · rw [if_neg hbad] at HI
        have hr5 : d.read ((at_ + 4 : Nat) : Int) (v : Int) = (d.now.drop (at_ + 4)).take v := by
          unfold DS.read
          by_cases hv0 : v = 0
          · subst hv0; rw [if_pos (by omega)]; simp
          · rw [if_neg (by omega), Int.toNat_natCast, Int.toNat_natCast]
        have R5 := Lib.hid <| show ∀ w, DiskAt w fp b d → Calls Try.prog 35 #[.pointer (some ⟨b, 0, none⟩), .int .i64 ((at_ : Int) + 4), .int .i64 v] w (ReadPost ((d.now.drop (at_ + 4)).take v) w) from fun w hw => by
          have h := read_all fp b ((at_ + 4 : Nat) : Int) v d w hw (rng_nat (by omega)) (rng_nat (by omega))
          rw [hr5] at h; exact h
        clear hr5
        gi_wp2_with fail
        refine ⟨trivial, (callsIn_wide.2 (R5.out _ d2)).mono ?_⟩
        rintro r w3 ⟨rfl, o3⟩
        have b3 : Only S W w3 := b2.trans o3 (fun _ _ h => h.elim)
        have j3 := hJ pre w2 w3 none j2 (grown_of_only o3) (fun _ h => by cases h)
        obtain ⟨fn, tmps, assign, body, hy, hR⟩ := hY pre ⟨((d.now.drop (at_ + 4)).take v, true), take_short d.now hc _ _⟩ w3 j3 hpl
        dsimp only [recV] at hy
        gi_wp2_with fail
        refine hR.mono ?_
        rintro r w4 (⟨rfl, hJ4, hk4⟩ | ⟨rfl, hx4⟩)
        · gi_wp2
          go_roundw
          case rel => exact ⟨_, at_ + 4 + v, k', by go_num, by omega, by omega, by rw [G3.out, HI.out]; simp, hJ4, b3.trans hk4 (fun _ _ h => h)⟩
          case measure => simp [intOf]; omega
        · gi_wp2
          refine bodyPost_ret (results_none rfl _ _ _) rfl ?_
          exact ⟨⟨_, rfl⟩, .inr ⟨_, by rw [G3.out, HI.out]; exact ⟨itemsA d.now hc e k' (at_ + 4 + v), by simp⟩, hx4⟩⟩
    · have hae : at_ = e := by omega
      have G3 := Lib.hid g3
      clear g3
      gi_wp2_with fail
      go_end0
      refine ⟨⟨_, rfl⟩, .inl ⟨pre, ?_, g4⟩⟩
      rw [G3.out]
      cases k with
      | zero => simp [itemsA]
      | succ k => simp only [itemsA]; rw [if_neg hlt]; simp

/-- records(d, end): both are boxed; the function value captures the boxes. -/
theorem records_any (pd : Option Addr) (e : Int) (w : World) : Calls Try.prog 59 #[.pointer pd, .int .i64 e] w fun r w' =>
    r = .returned (.func (.func 66) #[] #[.pointer (some ⟨w.heap.size + 1, 0, none⟩), .pointer (some ⟨w.heap.size, 0, none⟩)]) ∧ w' = (w.alloc (.cells #[.pointer pd] 25)).alloc (.cells #[.int .i64 e] 3) := by
  go_enter Try.func59, Try.ntmps59
  go_wp2
  go_ret
  exact ⟨rfl, rfl⟩

theorem recs_stops (Be Bd b e : Nat) (fp S : Nat → Prop) (d : DS) (w : World) (he : e ≤ 16777280) (h64 : 64 ≤ e)
    (hc : d.now.length ≤ 16777216) (hd : DiskAt w fp b d) (hfp : ∀ k, fp k → ¬ S k) (hbe : Be < w.heap.size ∧ ¬ S Be) (hbd : Bd < w.heap.size ∧ ¬ S Bd)
    (ce : w.cell? ⟨Be, 0, none⟩ = some (.int .i64 e)) (cd : w.cell? ⟨Bd, 0, none⟩ = some (.pointer (some ⟨b, 0, none⟩))) :
    SeqStopsK Fence.wide 9 Try.prog 66 #[.pointer (some ⟨Be, 0, none⟩), .pointer (some ⟨Bd, 0, none⟩)] recV (Only S) (fun ys => ys = itemsA d.now hc e (e + 1) 64) (fun pre => pre <+: itemsA d.now hc e (e + 1) 64) 16777281 w := fun l J Jx W hW hJ _ hY h0 =>
  recs1 l Be Bd b e fp S d J Jx W he h64 hc (hd.other (only_of_below hW) (fun k hk hx => by have := hd.lt k hk; omega)) hfp ⟨Nat.lt_of_lt_of_le hbe.1 hW.size, hbe.2⟩ ⟨Nat.lt_of_lt_of_le hbd.1 hW.size, hbd.2⟩
    ((hW.cell (p := ⟨Be, 0, none⟩) hbe.1).trans ce) ((hW.cell (p := ⟨Bd, 0, none⟩) hbd.1).trans cd) hJ hY h0

end Go.Proofs.Ytdpebdghhgojaaa
