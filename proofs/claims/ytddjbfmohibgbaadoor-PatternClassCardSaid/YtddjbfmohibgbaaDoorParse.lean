/- Parse: the program's function. -/
import Derived.Test.YtddjbfmohibgbaaDoorCatch
namespace Go.Proofs.YtddjbfmohibgbaaDoor
open Go.RowKit

/-- What Parse leaves. -/
def PaPost (R : PR (List Pc)) (w : World) (e : Ending) (w' : World) : Prop :=
  Only Nob w w' ∧ match R with
    | .ok p => ∃ v, e = .returned (.tuple #[v, .int .i64 0, .int .i64 0]) ∧ OwnP w' v p ∧ (∀ k, Blk v k → w.heap.size ≤ k)
    | .error (a, x) => e = .returned (.tuple #[.slice none 0 0, .int .i64 (a : Int), .int .i64 (x : Int)])

theorem res19 (tmps : Array Value) (w : World) (b0 b1 b2 : Nat) (v0 v1 v2 : Value) (t0 : tmps.getD 2 undef = .pointer (some ⟨b0, 0, none⟩)) (t1 : tmps.getD 3 undef = .pointer (some ⟨b1, 0, none⟩)) (t2 : tmps.getD 4 undef = .pointer (some ⟨b2, 0, none⟩))
    (h0 : Boxed w b0 23 v0) (h1 : Boxed w b1 3 v1) (h2 : Boxed w b2 27 v2) : (results Tryd.f19 tmps).run Tryd.prog w = .ok (.tuple #[v0, v1, v2]) w := by
  have c0 := h0.cell
  have c1 := h1.cell
  have c2 := h2.cell
  simp only [results, show Tryd.f19.results = #[.cell 2 23, .cell 3 3, .cell 4 27] from rfl]
  have s0 : tmps[2]?.getD undef = .pointer (some ⟨b0, 0, none⟩) := by simpa using t0
  have s1 : tmps[3]?.getD undef = .pointer (some ⟨b1, 0, none⟩) := by simpa using t1
  have s2 : tmps[4]?.getD undef = .pointer (some ⟨b2, 0, none⟩) := by simpa using t2
  simp [go_sem, s0, s1, s2, c0, c1, c2]

/-- The world in which the reading begins; e: what stands in the error's variable. -/
def paW3 (w : World) (e : Int) : World := ((w.alloc (.cells #[.slice none 0 0] 23)).alloc (.cells #[.int .i64 0] 3)).alloc (.cells #[.int .i64 e] 27)
def paW (w : World) (s : List UInt8) : World := (paW3 w 0).alloc (.cells #[.string ⟨s.toArray⟩, .int .i64 0] 88)

theorem paW3_at (w : World) (e : Int) : (paW3 w e).heap.size = w.heap.size + 1 + 1 + 1 ∧ Only Nob w (paW3 w e) ∧ Boxed (paW3 w e) w.heap.size 23 (.slice none 0 0) ∧ Boxed (paW3 w e) (w.heap.size + 1) 3 (.int .i64 0) ∧ Boxed (paW3 w e) (w.heap.size + 1 + 1) 27 (.int .i64 e) := by
  unfold paW3
  refine ⟨by simp, ((Only.alloc _ _ _).nob (Only.alloc _ _ _)).nob (Only.alloc _ _ _), ((Boxed.new w 23 (.slice none 0 0)).alloc _).alloc _, ?_, ?_⟩
  · generalize hA : w.alloc (.cells #[.slice none 0 0] 23) = wA
    have hz : wA.heap.size = w.heap.size + 1 := by rw [← hA]; simp
    rw [← hz]
    exact (Boxed.new wA 3 (.int .i64 0)).alloc _
  · generalize hA : (w.alloc (.cells #[.slice none 0 0] 23)).alloc (.cells #[.int .i64 0] 3) = wA
    have hz : wA.heap.size = w.heap.size + 1 + 1 := by rw [← hA]; simp
    rw [← hz]
    exact Boxed.new wA 27 (.int .i64 e)

theorem paW_at (w : World) (s : List UInt8) : Only Nob w (paW w s) ∧ Boxed (paW w s) w.heap.size 23 (.slice none 0 0) ∧ Boxed (paW w s) (w.heap.size + 1) 3 (.int .i64 0) ∧ Boxed (paW w s) (w.heap.size + 1 + 1) 27 (.int .i64 0) ∧ Rd (paW w s) (w.heap.size + 1 + 1 + 1) s 0 := by
  obtain ⟨hz, o, h0, h1, h2⟩ := paW3_at w 0
  unfold paW
  refine ⟨o.nob (Only.alloc _ _ _), h0.alloc _, h1.alloc _, h2.alloc _, ?_⟩
  rw [← hz]
  exact heap_alloc_new _ _

theorem bx_only {S : Nat → Prop} {W W' : World} {B : Nat} {t : TypeId} {v : Value} (h : Boxed W B t v) (o : Only S W W') (hn : ¬ S B) : Boxed W' B t v := (o.block _ h.lt hn).trans h

set_option maxRecDepth 100000 in
set_option maxHeartbeats 2000000 in
theorem parse_any (s : List UInt8) (w : World) (_hs : s.length ≤ 100000) : Calls Tryd.prog 19 #[.string ⟨s.toArray⟩] w (PaPost (parseL s) w) := by
  have hmf : ∀ (fn : Fn) (first cap : Array Value) (w : World), (Instr.makeFunc fn first cap).run Tryd.prog w = .ok (.func fn first cap) w := fun _ _ _ _ => rfl
  by_cases h60 : 60 < s.length
  · have h60' : (s.length : Int) > 60 := by omega
    unfold parseL
    rw [if_pos h60]
    go_enter_defers Tryd.func19, Tryd.ntmps19
    go_wp2
    obtain ⟨-, o, h0, h1, h2⟩ := paW3_at w 2
    exact ⟨_, res19 _ _ _ _ _ _ _ _ rfl rfl rfl h0 h1 h2, o, rfl⟩
  · have h60' : ¬ (s.length : Int) > 60 := by omega
    unfold parseL
    rw [if_neg h60]
    obtain ⟨oP, h0, h1, h2, hr⟩ := paW_at w s
    have PI := Lib.hid (pieces_any (w.heap.size + 1 + 1 + 1) s (paW w s) hr (by omega))
    have HP := Lib.hid (And.intro oP (And.intro h0 (And.intro h1 h2)))
    have hlt := hr.lt
    have HLT := Lib.hid hlt
    clear oP h0 h1 h2 hr hlt
    generalize piecesF s s.length 0 [] = R at PI ⊢
    go_enter_defers Tryd.func19, Tryd.ntmps19
    go_wp2_with fail
    refine PI.out.mono ?_
    obtain ⟨oP, h0, h1, h2⟩ := HP.out
    cases R with
    | error ae =>
      obtain ⟨a, x⟩ := ae
      rintro e w5 ⟨o5, rfl⟩
      have k0 := bx_only h0 o5 (fun h => by have h' : w.heap.size = w.heap.size + 1 + 1 + 1 := h; omega)
      have k1 := bx_only h1 o5 (fun h => by have h' : w.heap.size + 1 = w.heap.size + 1 + 1 + 1 := h; omega)
      have k2 := bx_only h2 o5 (fun h => by have h' : w.heap.size + 1 + 1 = w.heap.size + 1 + 1 + 1 := h; omega)
      refine leaves_cons (f := 59) (args := #[.pointer (some ⟨w.heap.size, 0, none⟩), .pointer (some ⟨w.heap.size + 1, 0, none⟩), .pointer (some ⟨w.heap.size + 1 + 1, 0, none⟩)]) (by simp) (by simp [go_sem]) ?_
      refine (catch_mis _ _ _ a x _ _ _ [] w5 k0 k1 k2 (by omega) (by omega) (by omega)).mono ?_
      rintro e u' w6 ⟨rfl, rfl, m0, m1, m2, o6⟩
      refine ⟨_, res19 _ _ _ _ _ _ _ _ rfl rfl rfl m0 m1 m2, ?_, rfl⟩
      have o56 : Only (fun i => w.heap.size ≤ i) w w6 := ((oP.mono (fun _ _ h => h.elim)).trans o5 (fun i _ h => by have h' : i = w.heap.size + 1 + 1 + 1 := h; omega)).trans o6 (fun i _ h => by have h' : i = w.heap.size ∨ i = w.heap.size + 1 ∨ i = w.heap.size + 1 + 1 := h; omega)
      exact o56.mono (fun i hi h => absurd hi (Nat.not_lt.2 h))
    | ok p =>
      rintro e w5 ⟨o5, v, rfl, hown, hnew⟩
      have k0 := bx_only h0 o5 (fun h => by have h' : w.heap.size = w.heap.size + 1 + 1 + 1 := h; omega)
      have k1 := bx_only h1 o5 (fun h => by have h' : w.heap.size + 1 = w.heap.size + 1 + 1 + 1 := h; omega)
      have k2 := bx_only h2 o5 (fun h => by have h' : w.heap.size + 1 + 1 = w.heap.size + 1 + 1 + 1 := h; omega)
      obtain ⟨ao, cap, rfl⟩ := hown.form
      have c0 := k0.cell
      have c1 := k1.cell
      have c2 := k2.cell
      have f0 := k0.frozen
      have f1 := k1.frozen
      have f2 := k2.frozen
      have HK := Lib.hid (And.intro k0 (And.intro k1 k2))
      have HO := Lib.hid o5
      have HV := Lib.hid (And.intro hown hnew)
      clear oP h0 h1 h2 PI k0 k1 k2 o5 hown hnew
      generalize hb : w.heap.size = b at *
      have HB := Lib.hid hb
      clear hb
      go_wp2
      obtain ⟨k0, k1, k2⟩ := HK.out
      refine leaves_cons (f := 59) (args := #[.pointer (some ⟨b, 0, none⟩), .pointer (some ⟨b + 1, 0, none⟩), .pointer (some ⟨b + 1 + 1, 0, none⟩)]) (by simp) (by simp [go_sem]) ?_
      refine (catch_idle _ _ _ _).mono ?_
      rintro e u' w6 ⟨rfl, rfl, o6⟩
      have st : ∀ (W : World) (B C : Nat) (v : Value), C ≠ B → Only (Oth B) W (W.setCell ⟨C, 0, none⟩ v) := fun W B C v h => Only.setCell (S := Oth B) W ⟨C, 0, none⟩ v h
      have m0 := bx_only (bx_only (bx_only (k0.set (.slice ao p.length cap)) (st _ _ (b + 1) (.int .i64 0) (by omega)) (fun h => h rfl)) (st _ _ (b + 1 + 1) (.int .i64 0) (by omega)) (fun h => h rfl)) o6 (fun h => h)
      have m1 := bx_only (bx_only ((bx_only k1 (st _ _ b (.slice ao p.length cap) (by omega)) (fun h => h rfl)).set (.int .i64 0)) (st _ _ (b + 1 + 1) (.int .i64 0) (by omega)) (fun h => h rfl)) o6 (fun h => h)
      have m2 := bx_only ((bx_only (bx_only k2 (st _ _ b (.slice ao p.length cap) (by omega)) (fun h => h rfl)) (st _ _ (b + 1) (.int .i64 0) (by omega)) (fun h => h rfl)).set (.int .i64 0)) o6 (fun h => h)
      have oS : Only (fun i => b ≤ i ∧ i ≤ b + 1 + 1) w5 (((w5.setCell ⟨b, 0, none⟩ (.slice ao p.length cap)).setCell ⟨b + 1, 0, none⟩ (.int .i64 0)).setCell ⟨b + 1 + 1, 0, none⟩ (.int .i64 0)) := (((Only.refl _ _).put b 0 _ ⟨by omega, by omega⟩).put (b + 1) 0 _ ⟨by omega, by omega⟩).put (b + 1 + 1) 0 _ ⟨by omega, by omega⟩
      have hl := HLT.out
      have oP := HP.out.1
      have hb := HB.out
      refine ⟨_, res19 _ _ _ _ _ _ _ _ rfl rfl rfl m0 m1 m2, ?_, _, rfl, (HV.out.1.other oS (fun k hk h => by have := HV.out.2 k hk; omega)).other o6 (fun _ _ h => h), fun k hk => by have := HV.out.2 k hk; omega⟩
      have o56 : Only (fun i => w.heap.size ≤ i) w w6 := (((oP.mono (fun _ _ h => h.elim)).trans HO.out (fun i _ h => by have h' : i = b + 1 + 1 + 1 := h; omega)).trans oS (fun i _ h => by have h' : b ≤ i ∧ _ := h; omega)).trans o6 (fun i _ h => h.elim)
      exact o56.mono (fun i hi h => absurd hi (Nat.not_lt.2 h))

end Go.Proofs.YtddjbfmohibgbaaDoor
