/- Chapter 05: finds, Find, Count. -/
import Derived.Test.YtddjbfmohibgbaaDoorPlainA
import Derived.Test.YtddjbfmohibgbaaDoorEndA

/- The iterator over the finds: its contract. -/
namespace Go.Proofs.YtddjbfmohibgbaaDoor
open Go.RowKit Go.Shelf

attribute [local go_sem] Oper.semAt_some

/-- A find that is handed over. -/
abbrev FndA (n : Nat) := { e : Nat × Nat // e.1 ≤ n ∧ e.2 ≤ n }
def fndV {n : Nat} (e : FndA n) : Array Value := #[.agg #[.int .i64 (e.1.1 : Nat), .int .i64 (e.1.2 : Nat)]]

/-- What the outer loop knows. -/
def FndRel (p : List Pc) (s : List UInt8) (S : Nat → Prop) (J : List (FndA s.length) → World → Prop) (W0 : World) (kv : Value) (wr : World) : Prop :=
  ∃ (pre : List (FndA s.length)) (k f : Nat), kv = .int .i64 (k : Int) ∧ k ≤ s.length ∧ s.length - k ≤ f ∧ findF p s s.length 0 = pre.map (·.1) ++ findF p s f k ∧ pre.length ≤ k ∧ J pre wr ∧ Only S W0 wr

theorem endF_le (l : List Bool) (k : Nat) : ∀ e, endF l k e ≤ e
  | 0 => Nat.le_refl _
  | e + 1 => by
    have := endF_le l k e
    unfold endF
    split
    · split
      · exact Nat.le_refl _
      · omega
    · exact Nat.le_refl _
theorem endF_ge (l : List Bool) (k : Nat) : ∀ e, k ≤ e → k ≤ endF l k e
  | 0, h => h
  | e + 1, h => by
    unfold endF
    split
    · rename_i h1
      split
      · exact h
      · exact endF_ge l k e (by omega)
    · exact h

set_option maxRecDepth 100000 in
set_option maxHeartbeats 4000000 in
theorem finds1 (l Bp Bs : Nat) (v : Value) (p : List Pc) (s : List UInt8) (S : Nat → Prop) (J Jx : List (FndA s.length) → World → Prop) (W : World) (fp : Fair p) (hs : s.length ≤ 1000)
    (hbp : ¬ S Bp) (hbs : ¬ S Bs) (cp : W.cell? ⟨Bp, 0, none⟩ = some v) (cs : W.cell? ⟨Bs, 0, none⟩ = some (.string ⟨s.toArray⟩)) (hp : ∀ w', Only S W w' → Pcs w' v p)
    (ht : Tab W) (hJ : AbidesFrom W.heap.size J)
    (hY : ∀ pre y W1, J pre W1 → pre.length < 1003 → YieldAt Fence.wide 8 Tryd.prog l (fndV y) W1 fun e W' =>
      (e = .returned (.bool true) ∧ J (pre ++ [y]) W' ∧ Only S W1 W') ∨ (e = .returned (.bool false) ∧ Jx (pre ++ [y]) W'))
    (h0 : J [] W) :
    CallsIn Fence.wide 9 Tryd.prog 114 #[.func (.yield l) #[] #[], .pointer (some ⟨Bp, 0, none⟩), .pointer (some ⟨Bs, 0, none⟩)] W fun r W' => (∃ v, r = .returned v) ∧
      ((∃ ys, ys.map (·.1) = findsL p s ∧ J ys W') ∨ (∃ pre, pre.map (·.1) <+: findsL p s ∧ Jx pre W')) := by
  obtain ⟨ao, cap, rfl⟩ := (hp W (Only.refl _ _)).form
  refine callsIn_of_wp Tryd.func114 rfl trivial ?_ rfl
  simp only [Tryd.ntmps114, List.size_toArray, List.length_cons, List.length_nil, Nat.reduceAdd, Nat.reduceSub, Array.replicate_succ, Array.replicate_zero, List.push_toArray, List.append_toArray, List.nil_append, List.cons_append]
  have R := Lib.hid (right_any _ p W (hp W (Only.refl _ _)) fp ht)
  have T := Lib.hid (fun w => text_any ⟨s.toArray⟩ w (show s.length ≤ _ by omega))
  have HT := Lib.hid (show (⟨s.toArray⟩ : ByteArray).data.toList = s from rfl)
  rw [HT.out] at T
  have HP := Lib.hid hp
  have HCs := Lib.hid (show ∀ w', Only S W w' → w'.cell? ⟨Bp, 0, none⟩ = some (.slice ao p.length cap) ∧ w'.cell? ⟨Bs, 0, none⟩ = some (.string ⟨s.toArray⟩) from fun w' o =>
    ⟨(o.cell (a := ⟨Bp, 0, none⟩) (World.block_lt_of_cell? W _ cp) hbp).trans cp, (o.cell (a := ⟨Bs, 0, none⟩) (World.block_lt_of_cell? W _ cs) hbs).trans cs⟩)
  clear ht hp HT
  cases r1 : rightB p
  · rw [r1] at R
    have HE : Hid (findsL p s = []) := by unfold findsL; rw [r1]; rfl
    gi_wp2_with fail
    refine ⟨trivial, ((callsIn_wide (n := 8)).2 R.out).mono ?_⟩
    rintro e w2 ⟨rfl, o2⟩
    have jd := hJ [] W w2 none h0 (grown_of_only o2) (fun _ h => by cases h)
    gi_wp2
    refine ⟨trivial, ?_⟩
    gi_wp2
    refine bodyPost_ret (results_none rfl _ _ _) rfl ?_
    exact ⟨⟨_, rfl⟩, .inl ⟨[], by rw [HE.out]; rfl, jd⟩⟩
  rw [r1] at R
  cases r2 : textB s
  · rw [r2] at T
    have HE : Hid (findsL p s = []) := by unfold findsL; rw [r1, r2]; rfl
    gi_wp2_with fail
    refine ⟨trivial, ((callsIn_wide (n := 8)).2 R.out).mono ?_⟩
    rintro e w2 ⟨rfl, o2⟩
    obtain ⟨cp2, cs2⟩ := HCs.out w2 (o2.mono (fun _ _ h => h.elim))
    gi_wp2_with fail
    refine ⟨trivial, ((callsIn_wide (n := 8)).2 (T.out _)).mono ?_⟩
    rintro e w3 ⟨rfl, o3⟩
    have jd := hJ [] W w3 none h0 (grown_of_only (o2.nob o3)) (fun _ h => by cases h)
    gi_wp2
    refine bodyPost_ret (results_none rfl _ _ _) rfl ?_
    exact ⟨⟨_, rfl⟩, .inl ⟨[], by rw [HE.out]; rfl, jd⟩⟩
  rw [r2] at T
  have HE : Hid (findsL p s = findF p s s.length 0) := by unfold findsL; rw [r1, r2]; rfl
  gi_wp2_with fail
  refine ⟨trivial, ((callsIn_wide (n := 8)).2 R.out).mono ?_⟩
  rintro e w2 ⟨rfl, o2⟩
  obtain ⟨cp2, cs2⟩ := HCs.out w2 (o2.mono (fun _ _ h => h.elim))
  gi_wp2_with fail
  refine ⟨trivial, ((callsIn_wide (n := 8)).2 (T.out _)).mono ?_⟩
  rintro e w3 ⟨rfl, o3⟩
  have jd := hJ [] W w3 none h0 (grown_of_only (o2.nob o3)) (fun _ h => by cases h)
  have HB : Hid (FndRel p s S J W (.int .i64 (0 : Nat)) w3) := ⟨[], 0, s.length, rfl, Nat.zero_le _, by omega, rfl, Nat.zero_le _, jd, (o2.nob o3).mono (fun _ _ h => h.elim)⟩
  clear R T cp2 cs2 cp cs jd
  gi_wp2_with fail
  gi_loopw [4] (fun kv wr => FndRel p s S J W kv wr) (fun kv _ => s.length - (intOf kv).toNat)
  case atStart => exact HB.out
  case round =>
    obtain ⟨pre, k, f, rfl, hk, hf, hfd, hpl, hj, hon⟩ := hrel
    clear HB
    obtain ⟨c1, c2⟩ := HCs.out wr hon
    have HO := Lib.hid hon
    have HJ := Lib.hid hj
    have HF := Lib.hid hfd
    clear hon hj hfd
    by_cases hlt : k < s.length
    · have kk : (k : Int) < (s.length : Int) := by omega
      obtain ⟨f, rfl⟩ : ∃ f', f = f' + 1 := ⟨f - 1, by omega⟩
      rw [findF, if_pos hlt] at HF
      have RE := Lib.hid (fun w' (o : Only Nob wr w') => reach_any _ p s k w' (HP.out w' (HO.out.trans (o.mono (fun _ _ h => h.elim)) (fun _ _ h => h))) fp hs hk)
      gi_wp2_with fail
      refine wpIn_wide.2 ?_
      go_region_held3 (fun w' => w'.cell? ⟨Bp, 0, none⟩ = some (.slice ao p.length cap) ∧ w'.cell? ⟨Bs, 0, none⟩ = some (.string ⟨s.toArray⟩))
        (first | exact u1 | exact ⟨c1, c2⟩ | fail)
        (first
          | (go_at_call 64; (with_reducible refine (RE.out _ (Only.drew Nob _)).mono ?_); rintro e w5 ⟨g, rfl, hrow, o5⟩; have u1 := HCs.out _ (HO.out.trans (Only.mono (T := S) (Only.nob (Only.drew Nob _) o5) (fun _ _ h => h.elim)) (fun _ _ h => h)))
          | fail)
      have O5 := Lib.hid (Only.nob (Only.drew Nob wr) o5)
      have U := Lib.hid u1
      have jd := hJ pre wr w5 none HJ.out (grown_of_only O5.out) (fun _ h => by cases h)
      have HROW := Lib.hid hrow
      have hrl := length_reachL p s k
      have HJ5 := Lib.hid jd
      clear u1 jd o5 hrow
      generalize reachL p s k = row at *
      gi_wp2_with fail
      gi_loopw [6] (fun ev wi => ∃ e : Nat, ev = .int .i64 (e : Int) ∧ k ≤ e ∧ e ≤ s.length ∧ endF row k s.length = endF row k e ∧ w5 = wi) (fun ev _ => (intOf ev).toNat)
      case atStart => exact ⟨s.length, rfl, hk, Nat.le_refl _, rfl, rfl⟩
      case round =>
        obtain ⟨e, rfl, he1, he2, he3, rfl⟩ := hrel
        have hel : e < row.length := by rw [hrl]; omega
        have hce := HROW.out.cell (i := e) hel
        have hgd : row.getD e false = row[e] := getD_lt _ hel
        obtain ⟨c1, c2⟩ := U.out
        have hE : endF row k e = if k < e then (if row[e] then e else endF row k (e - 1)) else e := by
          cases e with
          | zero => rw [if_neg (by omega)]; rfl
          | succ e => rw [endF, hgd]; rfl
        have hk2 : k < s.length + 1 := by omega
        have he4 : e < s.length + 1 := by omega
        have he5 : (e : Int) < (s.length : Int) + 1 := by omega
        generalize row[e] = be at hce hE
        clear hgd
        by_cases hke : k < e
        · have hke' : (k : Int) < (e : Int) := by omega
          rw [if_pos hke] at hE
          cases be
          · rw [if_neg (by simp)] at hE
            obtain ⟨q, hqe⟩ : ∃ q, q = e - 1 := ⟨_, rfl⟩
            have hw2 : IntKind.i64.wrap ((e : Int) - 1) = (q : Int) := by rw [IntWalk.i64_in _ (by omega)]; omega
            have HE2 := Lib.hid (show endF row k s.length = endF row k q by rw [he3, hE, hqe])
            have HQ := Lib.hid (show k ≤ q ∧ q ≤ s.length ∧ q < e by omega)
            clear hE he3 hqe
            gi_wp2_with fail
            go_roundw
            case rel => exact ⟨q, rfl, HQ.out.1, HQ.out.2.1, HE2.out, by first | trivial | rfl⟩
            case measure => have := HQ.out; simp [intOf]; omega
          · rw [if_pos rfl] at hE
            rw [he3, hE, if_pos hke] at HF
            clear hE he3
            have hpl : pre.length < 1003 := by omega
            obtain ⟨fn, tmps, assign, body, hy, hR⟩ := hY pre ⟨(k, e), hk, he2⟩ w5 HJ5.out hpl
            dsimp only [fndV] at hy
            have hmx : max (e : Int) (IntKind.i64.wrap ((k : Int) + 1)) = (e : Int) := by rw [IntWalk.i64_in _ (by omega)]; omega
            gi_wp2_with fail
            refine hR.mono ?_
            rintro r w6 (⟨rfl, hJ6, hk6⟩ | ⟨rfl, hx6⟩)
            · gi_wp2
              go_roundw
              case rel => exact ⟨pre ++ [⟨(k, e), hk, he2⟩], e, f, congrArg (Value.int .i64) (by omega), he2, by omega, by rw [HF.out]; simp, by simp; omega, hJ6, HO.out.trans ((O5.out.mono (T := S) (fun _ _ h => h.elim)).trans hk6 (fun _ _ h => h)) (fun _ _ h => h)⟩
              case measure => simp [intOf]; omega
            · gi_wp2
              refine bodyPost_ret (results_none rfl _ _ _) rfl ?_
              exact ⟨⟨_, rfl⟩, .inr ⟨pre ++ [⟨(k, e), hk, he2⟩], by rw [HE.out, HF.out]; exact ⟨findF p s f e, by simp⟩, hx6⟩⟩
        · obtain rfl : e = k := by omega
          rw [if_neg hke] at hE
          rw [he3, hE, if_neg hke] at HF
          clear hE he3
          have hmx : max (e : Int) (IntKind.i64.wrap ((e : Int) + 1)) = (e : Int) + 1 := by rw [IntWalk.i64_in _ (by omega)]; omega
          gi_wp2_with fail
          refine ⟨fun _ h => (by cases h), ?_⟩
          gi_wp2
          go_roundw
          case rel => exact ⟨pre, e + 1, f, congrArg (Value.int .i64) (by omega), by omega, by omega, HF.out, by omega, HJ5.out, HO.out.trans (O5.out.mono (fun _ _ h => h.elim)) (fun _ _ h => h)⟩
          case measure => simp [intOf]; omega
    · obtain rfl : k = s.length := by omega
      rw [show ∀ f, findF p s f s.length = [] from fun f => by cases f with | zero => rfl | succ f => simp [findF], List.append_nil] at HF
      gi_wp2
      refine ⟨rfl, .tuple #[], results_none rfl _ _ _, ?_⟩
      exact ⟨⟨_, rfl⟩, .inl ⟨pre, by rw [HE.out, HF.out], HJ.out⟩⟩

end Go.Proofs.YtddjbfmohibgbaaDoor

/- The finds counted. -/
namespace Go.Proofs.YtddjbfmohibgbaaDoor
open Go.RowKit Go.Shelf

attribute [local go_sem] Oper.semAt_some

/-- The world in which a pattern and a string lie in boxes. -/
def findsW (w : World) (v : Value) (s : List UInt8) : World := (w.alloc (.cells #[v] 23)).alloc (.cells #[.string ⟨s.toArray⟩] 9)

theorem finds_any (ao : Option Addr) (n cap : Nat) (s : List UInt8) (w : World) : Calls Tryd.prog 72 #[.slice ao n cap, .string ⟨s.toArray⟩] w fun e w' =>
    e = .returned (.func (.func 114) #[] #[.pointer (some ⟨w.heap.size, 0, none⟩), .pointer (some ⟨w.heap.size + 1, 0, none⟩)]) ∧ w' = findsW w (.slice ao n cap) s := by
  go_enter Tryd.func72, Tryd.ntmps72
  go_wp2
  go_ret
  exact ⟨rfl, rfl⟩

theorem findsW_at (w : World) (v : Value) (s : List UInt8) : (findsW w v s).heap.size = w.heap.size + 2 ∧ Only Nob w (findsW w v s) ∧ (findsW w v s).cell? ⟨w.heap.size, 0, none⟩ = some v ∧
    (findsW w v s).cell? ⟨w.heap.size + 1, 0, none⟩ = some (.string ⟨s.toArray⟩) := by
  unfold findsW
  refine ⟨by simp, (Only.alloc _ _ _).nob (Only.alloc _ _ _), ?_, ?_⟩
  · exact ((Boxed.new w 23 v).alloc (.cells #[.string ⟨s.toArray⟩] 9)).cell
  · generalize hA : w.alloc (.cells #[v] 23) = wA
    have hz : wA.heap.size = w.heap.size + 1 := by rw [← hA]; simp
    have h := Boxed.new wA 9 (.string ⟨s.toArray⟩)
    rw [← hz]
    exact h.cell

theorem finds_stops (v : Value) (p : List Pc) (s : List UInt8) (S : Nat → Prop) (wb w0 : World) (hp : Pcs wb v p) (fp : Fair p) (ht : Tab wb) (ob : Only Nob wb w0) (hs : s.length ≤ 1000)
    (hS : ∀ j, S j → wb.heap.size ≤ j ∧ (j < w0.heap.size ∨ w0.heap.size + 2 ≤ j)) :
    SeqStopsK Fence.wide 9 Tryd.prog 114 #[.pointer (some ⟨w0.heap.size, 0, none⟩), .pointer (some ⟨w0.heap.size + 1, 0, none⟩)] (fndV (n := s.length)) (Only S) (fun ys => ys.map (·.1) = findsL p s) (fun pre => pre.map (·.1) <+: findsL p s) 1003 (findsW w0 v s) := by
  intro l J Jx W hW hJ _ hY h0
  obtain ⟨hz, oz, cp, cs⟩ := findsW_at w0 v s
  have hK : ∀ (a : Addr), a.block < w0.heap.size + 2 → W.cell? a = (findsW w0 v s).cell? a := fun a h => hW.cell (p := a) (by omega)
  have o1 : Only Nob wb W := (ob.nob oz).nob (nob_of_below hW)
  refine finds1 l w0.heap.size (w0.heap.size + 1) v p s S J Jx W fp hs (fun h => by have := hS _ h; omega) (fun h => by have := hS _ h; omega)
    ((hK _ (by show w0.heap.size < _; omega)).trans cp) ((hK _ (by show w0.heap.size + 1 < _; omega)).trans cs) (fun w' o => ?_) (ht.other o1) hJ hY h0
  rcases hp with h | ⟨h0, b, off, cap, rfl, hb, hc⟩
  · exact .inl h
  · exact .inr ⟨h0, b, off, cap, rfl, Nat.lt_of_lt_of_le hb (Nat.le_trans o1.size o.size), fun i hi => ((hc i hi).other o1 (fun h => h)).other o (fun h => by have := hS _ h; omega)⟩

/-- Between two rounds of the counting loop. -/
def CntI {n : Nat} (g : Nat) (W0 : World) (pre : List (FndA n)) (W : World) : Prop :=
  W.heap[g]? = some (.cells #[.int .i64 (pre.length : Nat)] 3 (0, 0)) ∧ Only (fun i => i = g ∨ W0.heap.size ≤ i) W0 W

theorem cntI_own {n : Nat} (g : Nat) (W0 : World) (_h : g < W0.heap.size) : OwnFrom W0.heap.size (CntI (n := n) g W0) := fun s W W' r hs hg hr => by
  obtain ⟨h1, h2⟩ := hs
  exact ⟨((grown_only hg).block g (lt_of_heap h1) (not_row (fun q e => (hr q e).2) ⟨_, h1, rfl⟩)).trans h1, h2.trans (grown_only hg) (fun k _ hk => .inr (hr k hk).1)⟩

set_option maxRecDepth 100000 in
set_option maxHeartbeats 4000000 in
theorem count_finds (v : Value) (p : List Pc) (s : List UInt8) (w : World) (hp : Pcs w v p) (fp : Fair p) (ht : Tab w) (hs : s.length ≤ 1000) :
    Calls Tryd.prog 34 #[v, .string ⟨s.toArray⟩] w fun e w' => e = .returned (.int .i64 ((findsL p s).length : Nat)) ∧ Only Nob w w' := by
  obtain ⟨ao, cap, rfl⟩ := hp.form
  refine (callsIn_wide (n := 10)).1 ?_
  refine callsIn_of_wp_marks Tryd.func34 rfl trivial ?_ rfl
  simp only [Tryd.ntmps34, List.size_toArray, List.length_cons, List.length_nil, Nat.reduceAdd, Nat.reduceSub, Array.replicate_succ, Array.replicate_zero, List.push_toArray, List.append_toArray, List.nil_append, List.cons_append]
  refine wpIn_wide.2 ?_
  have HP := Lib.hid (And.intro hp ht)
  clear hp ht
  go_wp2_with fail
  refine (finds_any _ _ _ s _).mono ?_
  rintro e w' ⟨rfl, rfl⟩
  go_wp2_with fail
  have hc : (w.alloc (.cells #[.int .i64 0] 3)).heap[w.heap.size]? = some (.cells #[.int .i64 0] 3 (0, 0)) := heap_alloc_new _ _
  have oA : Only Nob w (w.alloc (.cells #[.int .i64 0] 3)) := Only.alloc _ _ _
  have hz1 : (w.alloc (.cells #[.int .i64 0] 3)).heap.size = w.heap.size + 1 := by simp
  generalize w.alloc (.cells #[.int .i64 0] 3) = wA at hc oA hz1 ⊢
  obtain ⟨hz4, o4, -⟩ := findsW_at wA (.slice ao p.length cap) s
  have hc4 := (o4.block _ (by omega) (fun h => h)).trans hc
  have hst4 := finds_stops _ p s (fun i => i = w.heap.size ∨ (findsW wA (.slice ao p.length cap) s).heap.size ≤ i) w wA HP.out.1 fp HP.out.2 oA hs (fun i hi => by omega)
  rw [hz1] at hst4 hz4
  have oW := oA.nob o4
  generalize findsW wA (.slice ao p.length cap) s = w4 at hz4 o4 hc4 hst4 oW ⊢
  refine wpIn_wide.1 (?_ : Code.wpIn Fence.wide 10 _ _ _ _ _)
  refine (?_ : ∀ A : Act, A = _ → Code.wpIn Fence.wide 10 _ _ _ A _) _ rfl
  intro A hA
  refine wpIn_rangeFunc_ownF rfl (by decide) (gf := 114) (lb := #[.pointer (some ⟨w.heap.size + 1, 0, none⟩), .pointer (some ⟨w.heap.size + 1 + 1, 0, none⟩)]) (by rw [hA]; rfl) trivial (enters_of Tryd.func114 (by kernel_rfl) rfl)
    hst4 (fun h k => h.trans k (fun _ _ h => h)) (fun W l o o' hl _ _ _ => only_putObj W l o' (.inr (by omega))) (Below.refl _ _) (fun _ => rfl)
    (CntI w.heap.size w4) (fun _ _ _ => False) (cntI_own _ _ (by omega)) (fun _ _ _ _ _ h _ _ => h) ⟨hc4, Only.refl _ _⟩
    (fun x => { tmps := A.tmps.setIfInBounds 9 (.agg #[.int .i64 (x.1.1 : Nat), .int .i64 (x.1.2 : Nat)]), defers := [] }) ?assign ?body ?done ?stop
  case assign =>
    intro l x W K hK
    subst hA
    simp only [List.setIfInBounds_toArray, List.set_cons_zero, List.set_cons_succ] at hK
    dsimp only [fndV]
    gi_wp2
    exact hK
  case body =>
    rintro l pre x W ⟨hr, hO⟩ hlen
    subst hA
    simp only [List.setIfInBounds_toArray, List.set_cons_zero, List.set_cons_succ]
    have hce : W.cell? ⟨w.heap.size, 0, none⟩ = some (.int .i64 (pre.length : Nat)) := by simp [World.cell?, hr]
    have hfe : W.frozen? ⟨w.heap.size, 0, none⟩ = false := by simp [World.frozen?, hr]
    have hw1 : IntKind.i64.wrap ((pre.length : Nat) + 1 : Int) = ((pre.length + 1 : Nat) : Int) := by rw [IntWalk.i64_in _ (by omega)]; omega
    have HR := Lib.hid hr
    have HO2 := Lib.hid hO
    clear hr hO
    gi_wp2
    have oS : Only (Is w.heap.size) W (W.setCell ⟨w.heap.size, 0, none⟩ (.int .i64 ((pre.length + 1 : Nat) : Int))) := Only.setCell _ _ _ rfl
    refine ⟨keeps_only oS (fun i hi _ => by obtain rfl : i = w.heap.size := hi; exact ⟨_, HR.out, rfl⟩), oS.mono (fun i _ hi => .inl hi), ?_, HO2.out.trans oS (fun i _ hi => .inl hi)⟩
    rw [List.length_append]
    exact heap_setCell_same W w.heap.size 0 _ 3 _ HR.out
  case done =>
    intro D ys W hD hS ⟨hr, hO⟩ hK
    subst hA
    have hce : W.cell? ⟨w.heap.size, 0, none⟩ = some (.int .i64 (ys.length : Nat)) := by simp [World.cell?, hr]
    have hyl : ys.length = (findsL p s).length := by rw [← hS, List.length_map]
    rw [hyl] at hce
    have hD2 : w.heap.size ≤ D := by omega
    have oT : Only Nob w W := oW.trans hO (fun i hi h => by omega)
    have HM := Lib.hid (show Marks W w.heap.size W.heap.size [{ target := .collected D, args := #[] }] from ⟨D, rfl, hD2, lt_of_heap hK, hK, trivial⟩)
    have HT := Lib.hid oT
    clear hr hO hS hyl hK oT
    go_wp2_with fail
    refine leaves_marks _ W.heap.size W HM.out (Nat.le_refl _) (fun w' o => ?_)
    exact ⟨_, results_tmp rfl _ _ _, rfl, HT.out.trans o (fun i hi h => absurd hi (Nat.not_lt.2 h.1))⟩
  case stop =>
    intro D c pre W _ _ h _
    exact h.elim

end Go.Proofs.YtddjbfmohibgbaaDoor

/- One find. -/
namespace Go.Proofs.YtddjbfmohibgbaaDoor
open Go.RowKit Go.Shelf

attribute [local go_sem] Oper.semAt_some

/-- The n-th find, and whether there is one. -/
def findR (L : List (Nat × Nat)) (n : Int) : Nat × Nat × Bool := if 1 ≤ n ∧ n ≤ (L.length : Int) then ((L.getD (n.toNat - 1) (0, 0)).1, (L.getD (n.toNat - 1) (0, 0)).2, true) else (0, 0, false)
def findV (r : Nat × Nat × Bool) : Value := .tuple #[.int .i64 (r.1 : Nat), .int .i64 (r.2.1 : Nat), .bool r.2.2]

/-- The world in which the loop over the finds begins: the number asked for, the three results, the counter. -/
def findW (w : World) (n : Int) : World := ((((w.alloc (.cells #[.int .i64 n] 3)).alloc (.cells #[.int .i64 0] 3)).alloc (.cells #[.int .i64 0] 3)).alloc (.cells #[.bool false] 4)).alloc (.cells #[.int .i64 0] 3)

theorem findW_at (w : World) (n : Int) : (findW w n).heap.size = w.heap.size + 5 ∧ Only Nob w (findW w n) ∧ Boxed (findW w n) w.heap.size 3 (.int .i64 n) ∧ Boxed (findW w n) (w.heap.size + 1) 3 (.int .i64 0) ∧
    Boxed (findW w n) (w.heap.size + 1 + 1) 3 (.int .i64 0) ∧ Boxed (findW w n) (w.heap.size + 1 + 1 + 1) 4 (.bool false) ∧ Boxed (findW w n) (w.heap.size + 1 + 1 + 1 + 1) 3 (.int .i64 0) := by
  unfold findW
  have h1 := Boxed.new w 3 (.int .i64 n)
  have z1 : (w.alloc (.cells #[.int .i64 n] 3)).heap.size = w.heap.size + 1 := by simp
  have o1 : Only Nob w (w.alloc (.cells #[.int .i64 n] 3)) := Only.alloc _ _ _
  generalize w.alloc (.cells #[.int .i64 n] 3) = w1 at *
  have h2 := Boxed.new w1 3 (.int .i64 0)
  have h1 := h1.alloc (.cells #[.int .i64 0] 3)
  have z2 : (w1.alloc (.cells #[.int .i64 0] 3)).heap.size = w1.heap.size + 1 := by simp
  have o2 : Only Nob w1 (w1.alloc (.cells #[.int .i64 0] 3)) := Only.alloc _ _ _
  generalize w1.alloc (.cells #[.int .i64 0] 3) = w2 at *
  have h3 := Boxed.new w2 3 (.int .i64 0)
  have h1 := h1.alloc (.cells #[.int .i64 0] 3)
  have h2 := h2.alloc (.cells #[.int .i64 0] 3)
  have z3 : (w2.alloc (.cells #[.int .i64 0] 3)).heap.size = w2.heap.size + 1 := by simp
  have o3 : Only Nob w2 (w2.alloc (.cells #[.int .i64 0] 3)) := Only.alloc _ _ _
  generalize w2.alloc (.cells #[.int .i64 0] 3) = w3 at *
  have h4 := Boxed.new w3 4 (.bool false)
  have h1 := h1.alloc (.cells #[.bool false] 4)
  have h2 := h2.alloc (.cells #[.bool false] 4)
  have h3 := h3.alloc (.cells #[.bool false] 4)
  have z4 : (w3.alloc (.cells #[.bool false] 4)).heap.size = w3.heap.size + 1 := by simp
  have o4 : Only Nob w3 (w3.alloc (.cells #[.bool false] 4)) := Only.alloc _ _ _
  generalize w3.alloc (.cells #[.bool false] 4) = w4 at *
  have h5 := Boxed.new w4 3 (.int .i64 0)
  have h1 := h1.alloc (.cells #[.int .i64 0] 3)
  have h2 := h2.alloc (.cells #[.int .i64 0] 3)
  have h3 := h3.alloc (.cells #[.int .i64 0] 3)
  have h4 := h4.alloc (.cells #[.int .i64 0] 3)
  rw [z4, z3, z2, z1] at h5
  rw [z3, z2, z1] at h4
  rw [z2, z1] at h3
  rw [z1] at h2
  exact ⟨by simp; omega, (((o1.nob o2).nob o3).nob o4).nob (Only.alloc _ _ _), h1, h2, h3, h4, h5⟩

/-- Between two rounds of the seeking loop. -/
def FndJ {k : Nat} (g : Nat) (n : Int) (W0 : World) (pre : List (FndA k)) (W : World) : Prop :=
  Boxed W (g + 1 + 1 + 1 + 1) 3 (.int .i64 (pre.length : Nat)) ∧ Only (fun i => i = g + 1 + 1 + 1 + 1 ∨ W0.heap.size ≤ i) W0 W ∧ (n < 1 ∨ (pre.length : Int) < n)
/-- Where the loop is left: the find is there. -/
def FndX {k : Nat} (g : Nat) (n : Int) (W0 : World) (c : Code) (pre : List (FndA k)) (W : World) : Prop :=
  c = .ret ∧ ∃ q x, pre = q ++ [x] ∧ (pre.length : Int) = n ∧ Boxed W (g + 1) 3 (.int .i64 (x.1.1 : Nat)) ∧ Boxed W (g + 1 + 1) 3 (.int .i64 (x.1.2 : Nat)) ∧ Boxed W (g + 1 + 1 + 1) 4 (.bool true) ∧ Only (fun i => g < i ∧ i ≤ g + 4 ∨ W0.heap.size ≤ i) W0 W
/-- The loop's variable in its box. -/
def FndA1 {k : Nat} (g B : Nat) (T : Array Value) (x : FndA k) (a : Act) (W : World) : Prop :=
  ∃ C, a = { tmps := (T.setIfInBounds 14 (.agg #[.int .i64 (x.1.1 : Nat), .int .i64 (x.1.2 : Nat)])).setIfInBounds 10 (.pointer (some ⟨C, 0, none⟩)), defers := [] } ∧ B ≤ C ∧ g + 5 ≤ C ∧
    W.heap[C]? = some (.cells #[.int .i64 (x.1.1 : Nat), .int .i64 (x.1.2 : Nat)] 103 (0, 0))

theorem boxed_grown {W W' : World} {B : Nat} {t : TypeId} {v : Value} {row : Option Nat} (h : Boxed W B t v) (hg : W.grownBy W' row) (hr : ∀ r, row = some r → ∃ o : Obj, W.heap[r]? = some o ∧ o.isCells = false) : Boxed W' B t v :=
  ((grown_only hg).block B h.lt (not_row hr ⟨_, h, rfl⟩)).trans h
theorem boxed_other {S : Nat → Prop} {W W' : World} {B : Nat} {t : TypeId} {v : Value} (h : Boxed W B t v) (ho : Only S W W') (hn : ¬ S B) : Boxed W' B t v := (ho.block B h.lt hn).trans h

theorem fndJ_own {k : Nat} (g : Nat) (n : Int) (W0 : World) : OwnFrom W0.heap.size (FndJ (k := k) g n W0) := fun s W W' r hs hg hr => by
  obtain ⟨h1, h2, h3⟩ := hs
  exact ⟨boxed_grown h1 hg (fun q e => (hr q e).2), h2.trans (grown_only hg) (fun k _ hk => .inr (hr k hk).1), h3⟩
theorem fndX_own {k : Nat} (g : Nat) (n : Int) (W0 : World) (c : Code) : OwnFrom W0.heap.size (FndX (k := k) g n W0 c) := fun s W W' r hs hg hr => by
  obtain ⟨hc, q, x, h0, h1, h2, h3, h4, h5⟩ := hs
  have f := fun q e => (hr q e).2
  exact ⟨hc, q, x, h0, h1, boxed_grown h2 hg f, boxed_grown h3 hg f, boxed_grown h4 hg f, h5.trans (grown_only hg) (fun k _ hk => .inr (hr k hk).1)⟩
theorem fndA1_own {k : Nat} (g B : Nat) (T : Array Value) (x : FndA k) (a : Act) : OwnFrom B (fun (_ : Unit) W => FndA1 g B T x a W) := fun _ W W' r hs hg hr => by
  obtain ⟨C, h1, h2, h4, h3⟩ := hs
  exact ⟨C, h1, h2, h4, ((grown_only hg).block C (lt_of_heap h3) (not_row (fun q e => (hr q e).2) ⟨_, h3, rfl⟩)).trans h3⟩

theorem find_last {k : Nat} {L : List (Nat × Nat)} {pre q : List (FndA k)} {x : FndA k} {n : Int} (h : pre.map (·.1) <+: L) (hp : pre = q ++ [x]) (hn : (pre.length : Int) = n) : findR L n = (x.1.1, x.1.2, true) := by
  obtain ⟨r, hr⟩ := h
  subst hp
  rw [List.length_append, List.length_singleton] at hn
  have e : L = q.map (·.1) ++ x.1 :: r := by rw [← hr]; simp
  have hl : L.length = q.length + (r.length + 1) := by rw [e]; simp
  have e2 : L.getD (n.toNat - 1) (0, 0) = x.1 := by
    rw [show n.toNat - 1 = q.length by omega, e]
    simp [List.getD_eq_getElem?_getD]
  unfold findR
  rw [if_pos (by omega), e2]

theorem stores3 {W : World} {g : Nat} {v1 v2 v3 : Value} (h1 : Boxed W (g + 1) 3 v1) (h2 : Boxed W (g + 1 + 1) 3 v2) (h3 : Boxed W (g + 1 + 1 + 1) 4 v3) (a b c : Value) :
    Boxed (((W.setCell ⟨g + 1, 0, none⟩ a).setCell ⟨g + 1 + 1, 0, none⟩ b).setCell ⟨g + 1 + 1 + 1, 0, none⟩ c) (g + 1) 3 a ∧ Boxed (((W.setCell ⟨g + 1, 0, none⟩ a).setCell ⟨g + 1 + 1, 0, none⟩ b).setCell ⟨g + 1 + 1 + 1, 0, none⟩ c) (g + 1 + 1) 3 b ∧
    Boxed (((W.setCell ⟨g + 1, 0, none⟩ a).setCell ⟨g + 1 + 1, 0, none⟩ b).setCell ⟨g + 1 + 1 + 1, 0, none⟩ c) (g + 1 + 1 + 1) 4 c ∧
    Only (fun i => g < i ∧ i ≤ g + 3) W (((W.setCell ⟨g + 1, 0, none⟩ a).setCell ⟨g + 1 + 1, 0, none⟩ b).setCell ⟨g + 1 + 1 + 1, 0, none⟩ c) := by
  refine ⟨((h1.set a).other (by omega) _).other (by omega) _, ((h2.other (by omega) a).set b).other (by omega) _, ((h3.other (by omega) a).other (by omega) b).set c, ?_⟩
  exact ((Only.setCell _ _ _ (by show g < g + 1 ∧ g + 1 ≤ g + 3; omega)).trans (Only.setCell _ _ _ (by show g < g + 1 + 1 ∧ g + 1 + 1 ≤ g + 3; omega)) (fun _ _ h => h)).trans (Only.setCell _ _ _ (by show g < g + 1 + 1 + 1 ∧ g + 1 + 1 + 1 ≤ g + 3; omega)) (fun _ _ h => h)

theorem res32 (tmps : Array Value) (w : World) (b : Nat) (r : Nat × Nat × Bool) (h6 : tmps.getD 6 undef = .pointer (some ⟨b + 1, 0, none⟩)) (h7 : tmps.getD 7 undef = .pointer (some ⟨b + 1 + 1, 0, none⟩)) (h8 : tmps.getD 8 undef = .pointer (some ⟨b + 1 + 1 + 1, 0, none⟩))
    (c1 : Boxed w (b + 1) 3 (.int .i64 (r.1 : Nat))) (c2 : Boxed w (b + 1 + 1) 3 (.int .i64 (r.2.1 : Nat))) (c3 : Boxed w (b + 1 + 1 + 1) 4 (.bool r.2.2)) : (results Tryd.f32 tmps).run Tryd.prog w = .ok (findV r) w := by
  simp only [results, show Tryd.f32.results = #[.cell 6 3, .cell 7 3, .cell 8 4] from rfl]
  have g6 : tmps[6]?.getD undef = .pointer (some ⟨b + 1, 0, none⟩) := by simpa using h6
  have g7 : tmps[7]?.getD undef = .pointer (some ⟨b + 1 + 1, 0, none⟩) := by simpa using h7
  have g8 : tmps[8]?.getD undef = .pointer (some ⟨b + 1 + 1 + 1, 0, none⟩) := by simpa using h8
  have k1 := c1.cell
  have k2 := c2.cell
  have k3 := c3.cell
  simp [go_sem, g6, g7, g8, k1, k2, k3, findV]

set_option maxRecDepth 100000 in
set_option maxHeartbeats 4000000 in
theorem find_any (v : Value) (p : List Pc) (s : List UInt8) (n : Int) (w : World) (hp : Pcs w v p) (fp : Fair p) (ht : Tab w) (hs : s.length ≤ 1000) :
    Calls Tryd.prog 32 #[v, .string ⟨s.toArray⟩, .int .i64 n] w fun e w' => e = .returned (findV (findR (findsL p s) n)) ∧ Only Nob w w' := by
  obtain ⟨ao, cap, rfl⟩ := hp.form
  refine (callsIn_wide (n := 10)).1 ?_
  refine callsIn_of_wp_marks Tryd.func32 rfl trivial ?_ rfl
  simp only [Tryd.ntmps32, List.size_toArray, List.length_cons, List.length_nil, Nat.reduceAdd, Nat.reduceSub, Array.replicate_succ, Array.replicate_zero, List.push_toArray, List.append_toArray, List.nil_append, List.cons_append]
  refine wpIn_wide.2 ?_
  have HP := Lib.hid (And.intro hp ht)
  clear hp ht
  go_wp2_with fail
  refine (finds_any _ _ _ s _).mono ?_
  rintro e w' ⟨rfl, rfl⟩
  go_wp2_with fail
  obtain ⟨hz, oA, b0, b1, b2, b3, b4⟩ := findW_at w n
  rw [show ((((w.alloc (.cells #[.int .i64 n] 3)).alloc (.cells #[.int .i64 0] 3)).alloc (.cells #[.int .i64 0] 3)).alloc (.cells #[.bool false] 4)).alloc (.cells #[.int .i64 0] 3) = findW w n from rfl]
  generalize findW w n = wA at hz oA b0 b1 b2 b3 b4 ⊢
  obtain ⟨hz4, o4, -⟩ := findsW_at wA (.slice ao p.length cap) s
  have hst4 := finds_stops _ p s (fun i => w.heap.size < i ∧ i ≤ w.heap.size + 4 ∨ (findsW wA (.slice ao p.length cap) s).heap.size ≤ i) w wA HP.out.1 fp HP.out.2 oA hs (fun i hi => by omega)
  rw [hz] at hst4 hz4
  have oW := oA.nob o4
  have b0 := boxed_other b0 o4 (fun h => h)
  have b1 := boxed_other b1 o4 (fun h => h)
  have b2 := boxed_other b2 o4 (fun h => h)
  have b3 := boxed_other b3 o4 (fun h => h)
  have b4 := boxed_other b4 o4 (fun h => h)
  generalize findsW wA (.slice ao p.length cap) s = w4 at hz4 o4 b0 b1 b2 b3 b4 hst4 oW ⊢
  refine wpIn_wide.1 (?_ : Code.wpIn Fence.wide 10 _ _ _ _ _)
  refine (?_ : ∀ A : Act, A = _ → Code.wpIn Fence.wide 10 _ _ _ A _) _ rfl
  intro A hA
  refine wpIn_rangeFunc_ownH rfl (by decide) (gf := 114) (lb := #[.pointer (some ⟨w.heap.size + 5, 0, none⟩), .pointer (some ⟨w.heap.size + 5 + 1, 0, none⟩)]) (by rw [hA]; rfl) trivial (enters_of Tryd.func114 (by kernel_rfl) rfl)
    hst4 (fun h k => h.trans k (fun _ _ h => h)) (fun W l o o' hl _ _ _ => only_putObj W l o' (.inr (by omega))) (Below.refl _ _) (fun _ => rfl)
    (FndJ w.heap.size n w4) (FndX w.heap.size n w4) (fndJ_own _ _ _) (fndX_own _ _ _) ⟨b4, Only.refl _ _, by show n < 1 ∨ ((0 : Nat) : Int) < n; omega⟩
    (FndA1 w.heap.size w4.heap.size A.tmps) (fndA1_own _ _ _) ?assign ?body ?done ?stop
  case assign =>
    intro l pre x W K hI hK
    subst hA
    dsimp only [fndV]
    have HI := Lib.hid hI
    have HK := Lib.hid hK
    clear hI hK
    gi_wp2
    have hz5 := HI.out.2.1.size
    refine HK.out _ _ (KeepsFrom.of_grownBy (World.grownBy_alloc W _ none) (fun j h => (by cases h))) (Only.alloc _ _ _) ((fndJ_own _ _ _).alloc _ HI.out) ⟨W.heap.size, rfl, hz5, by omega, heap_alloc_new _ _⟩
  case body =>
    rintro l pre x a' W hl hr hI ⟨C, ha, hC, hC5, hcell⟩ hlen
    subst ha
    subst hA
    simp only [List.setIfInBounds_toArray, List.set_cons_zero, List.set_cons_succ]
    obtain ⟨h1, h2, h3⟩ := hI
    have k0 := boxed_other b0 h2 (fun h => by have := b0.lt; omega)
    have k1 := boxed_other b1 h2 (fun h => by have := b1.lt; omega)
    have k2 := boxed_other b2 h2 (fun h => by have := b2.lt; omega)
    have k3 := boxed_other b3 h2 (fun h => by have := b3.lt; omega)
    have H2 := Lib.hid h2
    have H3 := Lib.hid h3
    obtain ⟨q, hq⟩ : ∃ q, q = pre.length + 1 := ⟨_, rfl⟩
    have hw1 : IntKind.i64.wrap ((pre.length : Nat) + 1 : Int) = (q : Int) := by rw [IntWalk.i64_in _ (by omega)]; omega
    have cn := h1.cell
    have fn := h1.frozen
    have m4 := h1.set (.int .i64 (q : Int))
    have oS : Only (Is (w.heap.size + 1 + 1 + 1 + 1)) W (W.setCell ⟨w.heap.size + 1 + 1 + 1 + 1, 0, none⟩ (.int .i64 (q : Int))) := Only.setCell _ _ _ rfl
    have hd : ∀ j, j ≠ w.heap.size + 1 + 1 + 1 + 1 → ¬ Is (w.heap.size + 1 + 1 + 1 + 1) j := fun j h e => h e
    have m0 := boxed_other k0 oS (hd _ (by omega))
    have m1 := boxed_other k1 oS (hd _ (by omega))
    have m2 := boxed_other k2 oS (hd _ (by omega))
    have m3 := boxed_other k3 oS (hd _ (by omega))
    have mC := (oS.block C (lt_of_heap hcell) (hd _ (by omega))).trans hcell
    have cm4 := m4.cell
    have cm0 := m0.cell
    have M := Lib.hid (And.intro m1 (And.intro m2 (And.intro m3 (And.intro m4 oS))))
    have MC := Lib.hid mC
    have KB := Lib.hid (show KeepsFrom w4.heap.size W (W.setCell ⟨w.heap.size + 1 + 1 + 1 + 1, 0, none⟩ (.int .i64 (q : Int))) from
      (keeps_only oS (fun i hi _ => by obtain rfl : i = _ := hi; exact ⟨_, h1, rfl⟩)).from _)
    have HQ := Lib.hid hq
    clear hq
    have H1 := Lib.hid h1
    clear h1 h2 h3 b0 b1 b2 b3 b4 k0 k1 k2 k3 m0 m1 m2 m3 m4 oS mC hcell hd
    by_cases hnn : (q : Int) = n
    · have HN := Lib.hid hnn
      have hn1 : ((q : Int) == n) = true := by simpa using hnn
      clear hnn
      gi_wp2
      have MCC := MC.out
      have SA : ∀ w' : World, w'.heap[C]? = some (.cells #[.int .i64 (x.1.1 : Nat), .int .i64 (x.1.2 : Nat)] 103 (0, 0)) → w'.cell? ⟨C, 0, none⟩ = some (.int .i64 (x.1.1 : Nat)) ∧ w'.cell? ⟨C, 1, none⟩ = some (.int .i64 (x.1.2 : Nat)) := fun w' h => by simp [World.cell?, h]
      have HSA := Lib.hid SA
      have f1 := M.out.1.frozen
      have f2 := M.out.2.1.frozen
      have f3 := M.out.2.2.1.frozen
      have g1 := M.out.1.cell
      have g2 := M.out.2.1.cell
      have g3 := M.out.2.2.1.cell
      refine wpIn_round_held (fun w' => w'.cell? ⟨C, 0, none⟩ = some (.int .i64 (x.1.1 : Nat)) ∧ w'.cell? ⟨C, 1, none⟩ = some (.int .i64 (x.1.2 : Nat))) l _ (by kernel_rfl) (fun ⟨_, _, h⟩ => h) ?nd (SA _ MCC) ?_
      case nd =>
        intro i o ho c
        match i, ho with
        | 0, ho => cases ho; intro h; cases h
        | 1, ho => cases ho; intro h; cases h
        | 2, ho => cases ho; intro h; cases h
        | 3, ho => cases ho; intro h; cases h
        | 4, ho => cases ho; intro h; cases h
        | 5, ho => cases ho; intro h; cases h
        | 6, ho => cases ho; intro h; cases h
        | i + 7, ho => cases ho
      have KC := Lib.hid (show ∀ (W' : World) (b : Nat) (v : Value), C ≠ b → W'.heap[C]? = some (.cells #[.int .i64 (x.1.1 : Nat), .int .i64 (x.1.2 : Nat)] 103 (0, 0)) → (W'.setCell ⟨b, 0, none⟩ v).heap[C]? = some (.cells #[.int .i64 (x.1.1 : Nat), .int .i64 (x.1.2 : Nat)] 103 (0, 0)) from
        fun W' b v hb h => (heap_setCell_other W' ⟨b, 0, none⟩ C v hb).trans h)
      clear SA MCC
      intro hHeld
      refine wpAnyH_take (i := 0) (oi := _) (v := .pointer (some ⟨C, 0, none⟩)) rfl (by kernel_rfl) (by kernel_rfl) (by kernel_rfl) (fun _ _ _ h => h) (Or.inl ⟨by rfl, by intro w hSw; (try dsimp only at hSw); go_simp⟩) (by assumption) ?_
      simp only [Act.put, List.setIfInBounds_toArray]
      refine wpAnyH_take (i := 1) (oi := _) (v := .int .i64 (x.1.1 : Nat)) rfl (by kernel_rfl) (by kernel_rfl) (by kernel_rfl) (fun _ _ _ h => h) (Or.inl ⟨by rfl, by intro w hSw; (try dsimp only at hSw); go_simp⟩) (by assumption) ?_
      simp only [Act.put]
      refine wpAnyH_take (i := 2) (oi := _) (v := .pointer (some ⟨C, 1, none⟩)) rfl (by kernel_rfl) (by kernel_rfl) (by kernel_rfl) (fun _ _ _ h => h) (Or.inl ⟨by rfl, by intro w hSw; (try dsimp only at hSw); go_simp⟩) (by assumption) ?_
      simp only [Act.put]
      refine wpAnyH_take (i := 3) (oi := _) (v := .int .i64 (x.1.2 : Nat)) rfl (by kernel_rfl) (by kernel_rfl) (by kernel_rfl) (fun _ _ _ h => h) (Or.inl ⟨by rfl, by intro w hSw; (try dsimp only at hSw); go_simp⟩) (by assumption) ?_
      simp only [Act.put]
      refine wpAnyH_ready (rs := [4]) (by kernel_rfl) (by simp) ?_
      refine AllReadyH.cons (o := _) rfl (fun K hK => ?_) AllReadyH.nil
      go_simp
      refine hK.out _ _ (HSA.out _ (KC.out _ (w.heap.size + 1) _ (by omega) MC.out)) (fun _ => ?_)
      clear hK K
      try simp only [Act.put, List.setIfInBounds_toArray, List.set_cons_zero, List.set_cons_succ]
      refine wpAnyH_ready (rs := [5]) (by kernel_rfl) (by simp) ?_
      refine AllReadyH.cons (o := _) rfl (fun K hK => ?_) AllReadyH.nil
      go_simp
      refine hK.out _ _ (HSA.out _ (KC.out _ (w.heap.size + 1 + 1) _ (by omega) (KC.out _ (w.heap.size + 1) _ (by omega) MC.out))) (fun _ => ?_)
      clear hK K
      try simp only [Act.put, List.setIfInBounds_toArray, List.set_cons_zero, List.set_cons_succ]
      refine wpAnyH_ready (rs := [6]) (by kernel_rfl) (by simp) ?_
      refine AllReadyH.cons (o := _) rfl (fun K hK => ?_) AllReadyH.nil
      go_simp
      refine hK.out _ _ (HSA.out _ (KC.out _ (w.heap.size + 1 + 1 + 1) _ (by omega) (KC.out _ (w.heap.size + 1 + 1) _ (by omega) (KC.out _ (w.heap.size + 1) _ (by omega) MC.out)))) (fun _ => ?_)
      clear hK K
      try simp only [Act.put, List.setIfInBounds_toArray, List.set_cons_zero, List.set_cons_succ]
      refine wpAnyH_done (by kernel_rfl) ?_ _
      gi_wp2
      obtain ⟨n1, n2, n3, n4, oS⟩ := M.out
      obtain ⟨r1, r2, r3, r4⟩ := stores3 n1 n2 n3 (.int .i64 (x.1.1 : Nat)) (.int .i64 (x.1.2 : Nat)) (.bool true)
      have r4 := r4.trans (Only.drew (fun i => w.heap.size < i ∧ i ≤ w.heap.size + 3) _) (fun _ _ h => h)
      refine ⟨KB.out.trans ((keeps_only r4 (fun i hi _ => ?_)).from _), rfl, pre, x, rfl, ?_, r1, r2, r3, ?_⟩
      · have : i = w.heap.size + 1 ∨ i = w.heap.size + 1 + 1 ∨ i = w.heap.size + 1 + 1 + 1 := by omega
        rcases this with rfl | rfl | rfl
        · exact ⟨_, n1, rfl⟩
        · exact ⟨_, n2, rfl⟩
        · exact ⟨_, n3, rfl⟩
      · rw [List.length_append, ← HN.out, HQ.out]; rfl
      · refine (H2.out.mono (fun i _ hi => ?_)).trans ((oS.mono (T := fun i => w.heap.size < i ∧ i ≤ w.heap.size + 4 ∨ w4.heap.size ≤ i) (fun i _ hi => ?_)).trans (r4.mono (fun i _ hi => ?_)) (fun _ _ h => h)) (fun _ _ h => h)
        · rcases hi with h | h
          · exact .inl (by omega)
          · exact .inr h
        · have : i = w.heap.size + 1 + 1 + 1 + 1 := hi
          exact .inl (by omega)
        · exact .inl (by omega)
    · have HN := Lib.hid hnn
      have hn1 : ((q : Int) == n) = false := by simpa using hnn
      clear hnn
      gi_wp2
      obtain ⟨n1, n2, n3, n4, oS⟩ := M.out
      refine ⟨by rw [← hz4]; exact KB.out, oS.mono (fun i _ hi => ?_), ?_, H2.out.trans oS (fun i _ hi => .inl hi), ?_⟩
      · have : i = w.heap.size + 1 + 1 + 1 + 1 := hi
        exact .inl (by omega)
      · rw [List.length_append]
        have e := HQ.out
        rw [e] at n4
        rw [e]
        exact n4
      · have h1 := H3.out
        have h2 := HN.out
        have h3 := HQ.out
        rw [List.length_append]
        simp only [List.length_singleton]
        omega
  case done =>
    intro D ys W hD hS ⟨h4, hO, hn⟩ hK
    subst hA
    have k1 := boxed_other b1 hO (fun h => by have := b1.lt; omega)
    have k2 := boxed_other b2 hO (fun h => by have := b2.lt; omega)
    have k3 := boxed_other b3 hO (fun h => by have := b3.lt; omega)
    obtain ⟨r1, r2, r3, r4⟩ := stores3 k1 k2 k3 (.int .i64 0) (.int .i64 0) (.bool false)
    have c1 := k1.cell
    have c2 := k2.cell
    have c3 := k3.cell
    have f1 := k1.frozen
    have f2 := k2.frozen
    have f3 := k3.frozen
    have hyl : ys.length = (findsL p s).length := by rw [← hS, List.length_map]
    have hR : findR (findsL p s) n = (0, 0, false) := by unfold findR; rw [if_neg (by omega)]
    have oT : Only Nob w W := oW.trans hO (fun i hi h => by omega)
    have HM := Lib.hid (show Marks (((W.setCell ⟨w.heap.size + 1, 0, none⟩ (.int .i64 0)).setCell ⟨w.heap.size + 1 + 1, 0, none⟩ (.int .i64 0)).setCell ⟨w.heap.size + 1 + 1 + 1, 0, none⟩ (.bool false)) (w.heap.size + 5) W.heap.size [{ target := .collected D, args := #[] }] from
      ⟨D, rfl, by omega, lt_of_heap hK, (r4.block D (lt_of_heap hK) (by omega)).trans hK, trivial⟩)
    have HT := Lib.hid (show Only Nob w (((W.setCell ⟨w.heap.size + 1, 0, none⟩ (.int .i64 0)).setCell ⟨w.heap.size + 1 + 1, 0, none⟩ (.int .i64 0)).setCell ⟨w.heap.size + 1 + 1 + 1, 0, none⟩ (.bool false)) from oT.trans r4 (fun i hi h => by omega))
    have HR := Lib.hid (And.intro r1 (And.intro r2 r3))
    have HRR := Lib.hid hR
    have hsz := r4.size
    clear h4 hO hn hS hyl hK oT r1 r2 r3 r4 k1 k2 k3 hR b0 b1 b2 b3 b4
    go_wp2_with fail
    refine leaves_marks _ W.heap.size _ HM.out hsz (fun w' o => ?_)
    refine ⟨_, res32 _ _ w.heap.size (0, 0, false) rfl rfl rfl (boxed_other HR.out.1 o (by omega)) (boxed_other HR.out.2.1 o (by omega)) (boxed_other HR.out.2.2 o (by omega)), by rw [HRR.out], HT.out.trans o (fun i hi h => by omega)⟩
  case stop =>
    intro D c pre W hD hSp ⟨hc, q, x, hpre, hlen, m1, m2, m3, hO⟩ hK
    subst hA
    subst hc
    gi_wp2
    have oT : Only Nob w W := oW.trans hO (fun i hi h => by omega)
    refine leaves_marks (B := w.heap.size + 5) _ W.heap.size W ⟨D, rfl, by omega, lt_of_heap hK, hK, trivial⟩ (Nat.le_refl _) (fun w' o => ?_)
    refine ⟨_, res32 _ _ w.heap.size (x.1.1, x.1.2, true) rfl rfl rfl (boxed_other m1 o (by omega)) (boxed_other m2 o (by omega)) (boxed_other m3 o (by omega)), ?_, oT.trans o (fun i hi h => by omega)⟩
    rw [find_last hSp hpre hlen]

end Go.Proofs.YtddjbfmohibgbaaDoor
