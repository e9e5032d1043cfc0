/- The iterator over the finds: its contract. -/
import Derived.Test.YtddjbfmohibgbaaDoorFndL
import Derived.Test.YtddjbfmohibgbaaDoorMatches
namespace Go.Proofs.YtddjbfmohibgbaaDoor
open Go.RowKit Go.Shelf

attribute [local go_sem] Oper.semAt_some

/-- A find that is handed over. -/
abbrev FndA (n : Nat) := { e : Nat × Nat // e.1 ≤ n ∧ e.2 ≤ n }
def fndV {n : Nat} (e : FndA n) : Array Value := #[.agg #[.int .i64 (e.1.1 : Nat), .int .i64 (e.1.2 : Nat)]]

/-- What the outer loop knows. -/
def FndRel (p : List Pc) (s : List UInt8) (S : Nat → Prop) (J : List (FndA s.length) → World → Prop) (W0 : World) (kv : Value) (wr : World) : Prop :=
  ∃ (pre : List (FndA s.length)) (k f : Nat), kv = .int .i64 (k : Int) ∧ k ≤ s.length ∧ s.length - k ≤ f ∧ findF p s s.length 0 = pre.map (·.1) ++ findF p s f k ∧ pre.length ≤ k ∧ J pre wr ∧ Only S W0 wr

theorem endF_le (l : List Bool) (k : Nat) : ∀ e, endF l k e ≤ e
  | 0 => Nat.le_refl _
  | e + 1 => by
    have := endF_le l k e
    unfold endF
    split
    · split
      · exact Nat.le_refl _
      · omega
    · exact Nat.le_refl _
theorem endF_ge (l : List Bool) (k : Nat) : ∀ e, k ≤ e → k ≤ endF l k e
  | 0, h => h
  | e + 1, h => by
    unfold endF
    split
    · rename_i h1
      split
      · exact h
      · exact endF_ge l k e (by omega)
    · exact h

set_option maxRecDepth 100000 in
set_option maxHeartbeats 4000000 in
theorem finds1 (l Bp Bs : Nat) (v : Value) (p : List Pc) (s : List UInt8) (S : Nat → Prop) (J Jx : List (FndA s.length) → World → Prop) (W : World) (fp : Fair p) (hs : s.length ≤ 1000)
    (hbp : ¬ S Bp) (hbs : ¬ S Bs) (cp : W.cell? ⟨Bp, 0, none⟩ = some v) (cs : W.cell? ⟨Bs, 0, none⟩ = some (.string ⟨s.toArray⟩)) (hp : ∀ w', Only S W w' → Pcs w' v p)
    (ht : Tab W) (hJ : AbidesFrom W.heap.size J)
    (hY : ∀ pre y W1, J pre W1 → pre.length < 1003 → YieldAt Fence.wide 8 Tryd.prog l (fndV y) W1 fun e W' =>
      (e = .returned (.bool true) ∧ J (pre ++ [y]) W' ∧ Only S W1 W') ∨ (e = .returned (.bool false) ∧ Jx (pre ++ [y]) W'))
    (h0 : J [] W) :
    CallsIn Fence.wide 9 Tryd.prog 114 #[.func (.yield l) #[] #[], .pointer (some ⟨Bp, 0, none⟩), .pointer (some ⟨Bs, 0, none⟩)] W fun r W' => (∃ v, r = .returned v) ∧
      ((∃ ys, ys.map (·.1) = findsL p s ∧ J ys W') ∨ (∃ pre, pre.map (·.1) <+: findsL p s ∧ Jx pre W')) := by
  obtain ⟨ao, cap, rfl⟩ := (hp W (Only.refl _ _)).form
  refine callsIn_of_wp Tryd.func114 rfl trivial ?_ rfl
  simp only [Tryd.ntmps114, List.size_toArray, List.length_cons, List.length_nil, Nat.reduceAdd, Nat.reduceSub, Array.replicate_succ, Array.replicate_zero, List.push_toArray, List.append_toArray, List.nil_append, List.cons_append]
  have R := Lib.hid (right_any _ p W (hp W (Only.refl _ _)) fp ht)
  have T := Lib.hid (fun w => text_any ⟨s.toArray⟩ w (show s.length ≤ _ by omega))
  have HT := Lib.hid (show (⟨s.toArray⟩ : ByteArray).data.toList = s from rfl)
  rw [HT.out] at T
  have HP := Lib.hid hp
  have HCs := Lib.hid (show ∀ w', Only S W w' → w'.cell? ⟨Bp, 0, none⟩ = some (.slice ao p.length cap) ∧ w'.cell? ⟨Bs, 0, none⟩ = some (.string ⟨s.toArray⟩) from fun w' o =>
    ⟨(o.cell (a := ⟨Bp, 0, none⟩) (World.block_lt_of_cell? W _ cp) hbp).trans cp, (o.cell (a := ⟨Bs, 0, none⟩) (World.block_lt_of_cell? W _ cs) hbs).trans cs⟩)
  clear ht hp HT
  cases r1 : rightB p
  · rw [r1] at R
    have HE : Hid (findsL p s = []) := by unfold findsL; rw [r1]; rfl
    gi_wp2_with fail
    refine ⟨trivial, ((callsIn_wide (n := 8)).2 R.out).mono ?_⟩
    rintro e w2 ⟨rfl, o2⟩
    have jd := hJ [] W w2 none h0 (grown_of_only o2) (fun _ h => by cases h)
    gi_wp2
    refine ⟨trivial, ?_⟩
    gi_wp2
    refine bodyPost_ret (results_none rfl _ _ _) rfl ?_
    exact ⟨⟨_, rfl⟩, .inl ⟨[], by rw [HE.out]; rfl, jd⟩⟩
  rw [r1] at R
  cases r2 : textB s
  · rw [r2] at T
    have HE : Hid (findsL p s = []) := by unfold findsL; rw [r1, r2]; rfl
    gi_wp2_with fail
    refine ⟨trivial, ((callsIn_wide (n := 8)).2 R.out).mono ?_⟩
    rintro e w2 ⟨rfl, o2⟩
    obtain ⟨cp2, cs2⟩ := HCs.out w2 (o2.mono (fun _ _ h => h.elim))
    gi_wp2_with fail
    refine ⟨trivial, ((callsIn_wide (n := 8)).2 (T.out _)).mono ?_⟩
    rintro e w3 ⟨rfl, o3⟩
    have jd := hJ [] W w3 none h0 (grown_of_only (o2.nob o3)) (fun _ h => by cases h)
    gi_wp2
    refine bodyPost_ret (results_none rfl _ _ _) rfl ?_
    exact ⟨⟨_, rfl⟩, .inl ⟨[], by rw [HE.out]; rfl, jd⟩⟩
  rw [r2] at T
  have HE : Hid (findsL p s = findF p s s.length 0) := by unfold findsL; rw [r1, r2]; rfl
  gi_wp2_with fail
  refine ⟨trivial, ((callsIn_wide (n := 8)).2 R.out).mono ?_⟩
  rintro e w2 ⟨rfl, o2⟩
  obtain ⟨cp2, cs2⟩ := HCs.out w2 (o2.mono (fun _ _ h => h.elim))
  gi_wp2_with fail
  refine ⟨trivial, ((callsIn_wide (n := 8)).2 (T.out _)).mono ?_⟩
  rintro e w3 ⟨rfl, o3⟩
  have jd := hJ [] W w3 none h0 (grown_of_only (o2.nob o3)) (fun _ h => by cases h)
  have HB : Hid (FndRel p s S J W (.int .i64 (0 : Nat)) w3) := ⟨[], 0, s.length, rfl, Nat.zero_le _, by omega, rfl, Nat.zero_le _, jd, (o2.nob o3).mono (fun _ _ h => h.elim)⟩
  clear R T cp2 cs2 cp cs jd
  gi_wp2_with fail
  gi_loopw [4] (fun kv wr => FndRel p s S J W kv wr) (fun kv _ => s.length - (intOf kv).toNat)
  case atStart => exact HB.out
  case round =>
    obtain ⟨pre, k, f, rfl, hk, hf, hfd, hpl, hj, hon⟩ := hrel
    clear HB
    obtain ⟨c1, c2⟩ := HCs.out wr hon
    have HO := Lib.hid hon
    have HJ := Lib.hid hj
    have HF := Lib.hid hfd
    clear hon hj hfd
    by_cases hlt : k < s.length
    · have kk : (k : Int) < (s.length : Int) := by omega
      obtain ⟨f, rfl⟩ : ∃ f', f = f' + 1 := ⟨f - 1, by omega⟩
      rw [findF, if_pos hlt] at HF
      have RE := Lib.hid (fun w' (o : Only Nob wr w') => reach_any _ p s k w' (HP.out w' (HO.out.trans (o.mono (fun _ _ h => h.elim)) (fun _ _ h => h))) fp hs hk)
      gi_wp2_with fail
      refine wpIn_wide.2 ?_
      go_region_held3 (fun w' => w'.cell? ⟨Bp, 0, none⟩ = some (.slice ao p.length cap) ∧ w'.cell? ⟨Bs, 0, none⟩ = some (.string ⟨s.toArray⟩))
        (first | exact u1 | exact ⟨c1, c2⟩ | fail)
        (first
          | (go_at_call 64; (with_reducible refine (RE.out _ (Only.drew Nob _)).mono ?_); rintro e w5 ⟨g, rfl, hrow, o5⟩; have u1 := HCs.out _ (HO.out.trans (Only.mono (T := S) (Only.nob (Only.drew Nob _) o5) (fun _ _ h => h.elim)) (fun _ _ h => h)))
          | fail)
      have O5 := Lib.hid (Only.nob (Only.drew Nob wr) o5)
      have U := Lib.hid u1
      have jd := hJ pre wr w5 none HJ.out (grown_of_only O5.out) (fun _ h => by cases h)
      have HROW := Lib.hid hrow
      have hrl := length_reachL p s k
      have HJ5 := Lib.hid jd
      clear u1 jd o5 hrow
      generalize reachL p s k = row at *
      gi_wp2_with fail
      gi_loopw [6] (fun ev wi => ∃ e : Nat, ev = .int .i64 (e : Int) ∧ k ≤ e ∧ e ≤ s.length ∧ endF row k s.length = endF row k e ∧ w5 = wi) (fun ev _ => (intOf ev).toNat)
      case atStart => exact ⟨s.length, rfl, hk, Nat.le_refl _, rfl, rfl⟩
      case round =>
        obtain ⟨e, rfl, he1, he2, he3, rfl⟩ := hrel
        have hel : e < row.length := by rw [hrl]; omega
        have hce := HROW.out.cell (i := e) hel
        have hgd : row.getD e false = row[e] := getD_lt _ hel
        obtain ⟨c1, c2⟩ := U.out
        have hE : endF row k e = if k < e then (if row[e] then e else endF row k (e - 1)) else e := by
          cases e with
          | zero => rw [if_neg (by omega)]; rfl
          | succ e => rw [endF, hgd]; rfl
        have hk2 : k < s.length + 1 := by omega
        have he4 : e < s.length + 1 := by omega
        have he5 : (e : Int) < (s.length : Int) + 1 := by omega
        generalize row[e] = be at hce hE
        clear hgd
        by_cases hke : k < e
        · have hke' : (k : Int) < (e : Int) := by omega
          rw [if_pos hke] at hE
          cases be
          · rw [if_neg (by simp)] at hE
            obtain ⟨q, hqe⟩ : ∃ q, q = e - 1 := ⟨_, rfl⟩
            have hw2 : IntKind.i64.wrap ((e : Int) - 1) = (q : Int) := by rw [IntWalk.i64_in _ (by omega)]; omega
            have HE2 := Lib.hid (show endF row k s.length = endF row k q by rw [he3, hE, hqe])
            have HQ := Lib.hid (show k ≤ q ∧ q ≤ s.length ∧ q < e by omega)
            clear hE he3 hqe
            gi_wp2_with fail
            go_roundw
            case rel => exact ⟨q, rfl, HQ.out.1, HQ.out.2.1, HE2.out, by first | trivial | rfl⟩
            case measure => have := HQ.out; simp [intOf]; omega
          · rw [if_pos rfl] at hE
            rw [he3, hE, if_pos hke] at HF
            clear hE he3
            have hpl : pre.length < 1003 := by omega
            obtain ⟨fn, tmps, assign, body, hy, hR⟩ := hY pre ⟨(k, e), hk, he2⟩ w5 HJ5.out hpl
            dsimp only [fndV] at hy
            have hmx : max (e : Int) (IntKind.i64.wrap ((k : Int) + 1)) = (e : Int) := by rw [IntWalk.i64_in _ (by omega)]; omega
            gi_wp2_with fail
            refine hR.mono ?_
            rintro r w6 (⟨rfl, hJ6, hk6⟩ | ⟨rfl, hx6⟩)
            · gi_wp2
              go_roundw
              case rel => exact ⟨pre ++ [⟨(k, e), hk, he2⟩], e, f, congrArg (Value.int .i64) (by omega), he2, by omega, by rw [HF.out]; simp, by simp; omega, hJ6, HO.out.trans ((O5.out.mono (T := S) (fun _ _ h => h.elim)).trans hk6 (fun _ _ h => h)) (fun _ _ h => h)⟩
              case measure => simp [intOf]; omega
            · gi_wp2
              refine bodyPost_ret (results_none rfl _ _ _) rfl ?_
              exact ⟨⟨_, rfl⟩, .inr ⟨pre ++ [⟨(k, e), hk, he2⟩], by rw [HE.out, HF.out]; exact ⟨findF p s f e, by simp⟩, hx6⟩⟩
        · obtain rfl : e = k := by omega
          rw [if_neg hke] at hE
          rw [he3, hE, if_neg hke] at HF
          clear hE he3
          have hmx : max (e : Int) (IntKind.i64.wrap ((e : Int) + 1)) = (e : Int) + 1 := by rw [IntWalk.i64_in _ (by omega)]; omega
          gi_wp2_with fail
          refine ⟨fun _ h => (by cases h), ?_⟩
          gi_wp2
          go_roundw
          case rel => exact ⟨pre, e + 1, f, congrArg (Value.int .i64) (by omega), by omega, by omega, HF.out, by omega, HJ5.out, HO.out.trans (O5.out.mono (fun _ _ h => h.elim)) (fun _ _ h => h)⟩
          case measure => simp [intOf]; omega
    · obtain rfl : k = s.length := by omega
      rw [show ∀ f, findF p s f s.length = [] from fun f => by cases f with | zero => rfl | succ f => simp [findF], List.append_nil] at HF
      gi_wp2
      refine ⟨rfl, .tuple #[], results_none rfl _ _ _, ?_⟩
      exact ⟨⟨_, rfl⟩, .inl ⟨pre, by rw [HE.out, HF.out], HJ.out⟩⟩

end Go.Proofs.YtddjbfmohibgbaaDoor
