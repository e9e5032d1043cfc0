/- The reference's finds; its Find and Count. -/
import Derived.Test.YtddjbfmohibgbaaDoorREndA
import Derived.Test.YtddjbfmohibgbaaDoorFndA
import Derived.Test.YtddjbfmohibgbaaDoorPlainA
namespace Go.Proofs.YtddjbfmohibgbaaDoor
open Go.RowKit

theorem Tryd.info3 : (Tryd.prog.info? 3).map (fun i => (i.zero, i.size, i.bytes)) = some (some (.int .i64 0), 1, 8) := by kernel_rfl

def cellsN (l : List Nat) : List Value := l.map fun (n : Nat) => Value.int .i64 (n : Int)
/-- v is a slice of the call's own with the numbers l. -/
def OwnN (w : World) (v : Value) (l : List Nat) : Prop := w.ownsRow 0 3 1 v l.length (cellsN l)
def flatF (L : List (Nat × Nat)) : List Nat := L.flatMap fun e => [e.1, e.2]

theorem flatF_snoc (L : List (Nat × Nat)) (a b : Nat) : flatF (L ++ [(a, b)]) = flatF L ++ [a, b] := by simp [flatF]
theorem length_flatF (L : List (Nat × Nat)) : (flatF L).length = 2 * L.length := by
  induction L with
  | nil => rfl
  | cons x L ih =>
    have e : flatF (x :: L) = [x.1, x.2] ++ flatF L := rfl
    rw [e, List.length_append, ih, List.length_cons]
    simp
    omega
theorem flatF_get : ∀ (L : List (Nat × Nat)) (k : Nat) (h : k < L.length), (flatF L)[2 * k]? = some L[k].1 ∧ (flatF L)[2 * k + 1]? = some L[k].2
  | x :: L, 0, _ => ⟨rfl, rfl⟩
  | x :: L, k + 1, h => by
    have e : flatF (x :: L) = [x.1, x.2] ++ flatF L := rfl
    have ih := flatF_get L k (by simpa using h)
    rw [e, List.getElem?_append_right (by simp; omega), List.getElem?_append_right (by simp; omega)]
    simp only [List.length_cons, List.length_nil, Nat.zero_add, List.getElem_cons_succ]
    rw [show 2 * (k + 1) - (1 + 1) = 2 * k by omega, show 2 * (k + 1) + 1 - (1 + 1) = 2 * k + 1 by omega]
    exact ih

theorem OwnN.nil (w : World) : OwnN w (.slice none 0 0) [] := World.ownsRow_nil w 0 3 1
theorem OwnN.other {S : Nat → Prop} {w w' : World} {v : Value} {l : List Nat} (h : OwnN w v l) (ho : Only S w w') (hn : ∀ k, Blk v k → ¬ S k) : OwnN w' v l := Own.other h ho hn
theorem OwnN.form {w : World} {v : Value} {l : List Nat} (h : OwnN w v l) : ∃ ao cap, v = .slice ao l.length cap := by
  obtain ⟨ao, cap, rfl, _⟩ := own_form h
  exact ⟨ao, cap, rfl⟩
theorem OwnN.cell {w : World} {ao : Option Addr} {n cap : Nat} {l : List Nat} (h : OwnN w (.slice ao n cap) l) {i m : Nat} (hi : l[i]? = some m) : ∃ g, ao = some ⟨g, 0, none⟩ ∧ n = l.length ∧ i < l.length ∧ w.cell? ⟨g, i, none⟩ = some (.int .i64 (m : Int)) := by
  have hlt : i < l.length := (List.getElem?_eq_some_iff.1 hi).1
  obtain ⟨g, cap', hv, _, _⟩ := own_form_pos h (by omega)
  simp only [Value.slice.injEq] at hv
  obtain ⟨rfl, rfl, rfl⟩ := hv
  refine ⟨g, rfl, rfl, hlt, (World.ownsRow.cellAt h i (by omega)).trans ?_⟩
  unfold cellsN
  rw [List.getElem?_map, hi]
  rfl

/-- append of two numbers, as one operation of a list. -/
theorem wpList_append_two {ops : Array Oper} {rest : List Oper} {o : Oper} {a : Act} {w : World} {Q : Exit → Act → World → Prop} (hgd : o.guard = none) (s x : Operand)
    (ho : o.op = .call { callee := .builtin .append, args := #[s, x], argTypes := #[22, 22] }) (v : Value) (l : List Nat) (hs : a.eval s = v) (hown : OwnN w v l) (g : Nat) (c d : Nat) (hx : a.eval x = .slice (some ⟨g, 0, none⟩) 2 2)
    (hg : w.heap[g]? = some (.cells #[.int .i64 (c : Int), .int .i64 (d : Int)] 3 (0, 0))) (hl : l.length ≤ 10000)
    (h : ∀ v' w', OwnN w' v' (l ++ [c, d]) → Only (Blk v) w w' → (∀ k, Blk v' k → Blk v k ∨ w.heap.size ≤ k) → wpList Tryd.prog ops Q rest (a.put o.dst v') w') : wpList Tryd.prog ops Q (o :: rest) a w := by
  obtain ⟨i0, hi, hz0, hz1, hz2⟩ := info_parts Tryd.info3
  refine wpList_append_own_f hgd s x 22 ho 3 i0 _ 1 8 Tryd.underlying22 hi hz0 hz1 hz2 rfl (by decide) v l.length (cellsN l) hs hown ⟨g, 0, none⟩ 2 2 [.int .i64 (c : Int), .int .i64 (d : Int)] hx rfl ?_ ?_ ?_ ?_ ?_
  · intro j u hj
    rw [addr_add0, cell_of_row w g j _ _ _ hg]
    match j, hj with
    | 0, hj => exact hj
    | 1, hj => exact hj
  · intro u hu
    simp only [List.mem_cons, List.not_mem_nil, or_false] at hu
    rcases hu with rfl | rfl <;> rfl
  · unfold maxLen; omega
  · omega
  · intro v' w' h1 h2 h3 _
    refine h v' w' ?_ (Only.grown h2 (fun k hk => hk)) h3
    unfold OwnN cellsN
    rw [List.map_append, List.length_append]
    exact h1

/-- What the outer loop knows. -/
def RFRel (p : List Pc) (s : List UInt8) (w : World) (ov kv : Value) (wr : World) : Prop :=
  ∃ (pre : List (Nat × Nat)) (k f : Nat), kv = .int .i64 (k : Int) ∧ k ≤ s.length ∧ s.length - k ≤ f ∧ findF p s s.length 0 = pre ++ findF p s f k ∧ pre.length ≤ k ∧ OwnN wr ov (flatF pre) ∧ (∀ i, Blk ov i → w.heap.size ≤ i) ∧ Only Nob w wr

theorem endF_step {row : List Bool} {k e : Nat} (hel : e < row.length) : endF row k e = if k < e then (if row[e] then e else endF row k (e - 1)) else e := by
  have hgd : row.getD e false = row[e] := getD_lt _ hel
  cases e with
  | zero => rw [if_neg (by omega)]; rfl
  | succ e => rw [endF, hgd]; rfl

set_option maxRecDepth 100000 in
set_option maxHeartbeats 4000000 in
theorem rfinds_any (v : Value) (p : List Pc) (s : List UInt8) (w : World) (hp : Pcs w v p) (fp : Fair p) (hs : s.length ≤ 1000) :
    Calls Tryd.prog 73 #[v, .string ⟨s.toArray⟩] w fun e w' => ∃ ov, e = .returned ov ∧ OwnN w' ov (flatF (findsL p s)) ∧ Only Nob w w' := by
  obtain ⟨ao, cap, rfl⟩ := hp.form
  have R := Lib.hid (rright_any _ p w hp fp)
  have T := Lib.hid (fun w => rtext_any ⟨s.toArray⟩ w (show s.length ≤ _ by omega))
  have e1 : (⟨s.toArray⟩ : ByteArray).data.toList = s := rfl
  rw [e1] at T
  clear e1
  cases r1 : rightB p
  · rw [r1] at R
    have HE : Hid (findsL p s = []) := by unfold findsL; rw [r1]; rfl
    clear r1
    go_enter Tryd.func73, Tryd.ntmps73
    go_wp2_with (go_at_call 21; refine R.out.mono ?_; rintro e w2 ⟨rfl, o2⟩)
    go_ret
    exact ⟨_, rfl, by rw [HE.out]; exact OwnN.nil _, o2⟩
  rw [r1] at R
  cases r2 : textB s
  · rw [r2] at T
    have HE : Hid (findsL p s = []) := by unfold findsL; rw [r1, r2]; rfl
    clear r1 r2
    go_enter Tryd.func73, Tryd.ntmps73
    go_wp2_with fail
    refine R.out.mono ?_
    rintro e w2 ⟨rfl, o2⟩
    go_wp2_with fail
    refine (T.out _).mono ?_
    rintro e w' ⟨rfl, rfl⟩
    go_wp2
    go_ret
    exact ⟨_, rfl, by rw [HE.out]; exact OwnN.nil _, o2⟩
  rw [r2] at T
  have HE : Hid (findsL p s = findF p s s.length 0) := by unfold findsL; rw [r1, r2]; rfl
  clear r1 r2
  have HP := Lib.hid hp
  clear hp
  go_enter Tryd.func73, Tryd.ntmps73
  go_wp2_with fail
  refine R.out.mono ?_
  rintro e w2 ⟨rfl, o2⟩
  go_wp2_with fail
  refine (T.out _).mono ?_
  rintro e w' ⟨rfl, rfl⟩
  have HB : Hid (RFRel p s w (.slice none 0 0) (.int .i64 (0 : Nat)) w2) := ⟨[], 0, s.length, rfl, Nat.zero_le _, by omega, rfl, Nat.zero_le _, OwnN.nil _, fun i h => (by cases h), o2⟩
  clear R T o2
  go_wp2_with fail
  go_loopw [5, 6] (fun ov kv wr => RFRel p s w ov kv wr) (fun _ kv _ => s.length - (intOf kv).toNat)
  case atStart => exact HB.out
  case round =>
    obtain ⟨pre, k, f, rfl, hk, hf, hfd, hpl, hown, hnew, hon⟩ := hrel
    clear HB
    obtain ⟨ao2, cap2, rfl⟩ := hown.form
    have HO := Lib.hid hon
    have HF := Lib.hid hfd
    have HOW := Lib.hid (And.intro hown hnew)
    clear hon hfd hown hnew
    by_cases hlt : k < s.length
    · have kk : (k : Int) < (s.length : Int) := by omega
      obtain ⟨f, rfl⟩ : ∃ f', f = f' + 1 := ⟨f - 1, by omega⟩
      rw [findF, if_pos hlt] at HF
      have RE := Lib.hid (rends_any _ p s k wr (HP.out.nob HO.out) fp hs hk)
      go_wp2_with fail
      refine RE.out.mono ?_
      rintro e w5 ⟨g, rfl, hrow, o5⟩
      have HROW := Lib.hid hrow
      have O5 := Lib.hid o5
      have hrl := length_reachL p s k
      clear hrow o5 RE
      generalize reachL p s k = row at *
      go_wp2_with fail
      go_loopw [8] (fun ev wi => ∃ e : Nat, ev = .int .i64 (e : Int) ∧ k ≤ e ∧ e ≤ s.length ∧ endF row k s.length = endF row k e ∧ w5 = wi) (fun ev _ => (intOf ev).toNat)
      case atStart => exact ⟨s.length, rfl, hk, Nat.le_refl _, rfl, rfl⟩
      case round =>
        obtain ⟨e, rfl, he1, he2, he3, rfl⟩ := hrel
        have hel : e < row.length := by rw [hrl]; omega
        have hce := HROW.out.cell (i := e) hel
        have hE := endF_step (k := k) hel
        have hk2 : k < s.length + 1 := by omega
        have he4 : e < s.length + 1 := by omega
        have he5 : (e : Int) < (s.length : Int) + 1 := by omega
        generalize row[e] = be at hce hE
        by_cases hke : k < e
        · have hke' : (k : Int) < (e : Int) := by omega
          rw [if_pos hke] at hE
          cases be
          · rw [if_neg (by simp)] at hE
            obtain ⟨q, hqe⟩ : ∃ q, q = e - 1 := ⟨_, rfl⟩
            have hw2 : IntKind.i64.wrap ((e : Int) - 1) = (q : Int) := by rw [IntWalk.i64_in _ (by omega)]; omega
            have HE2 := Lib.hid (show endF row k s.length = endF row k q by rw [he3, hE, hqe])
            have HQ := Lib.hid (show k ≤ q ∧ q ≤ s.length ∧ q < e by omega)
            clear hE he3 hqe
            go_wp2_with fail
            go_roundw
            case rel => exact ⟨q, rfl, HQ.out.1, HQ.out.2.1, HE2.out, by first | trivial | rfl⟩
            case measure => have := HQ.out; simp [intOf]; omega
          · rw [if_pos rfl] at hE
            rw [he3, hE, if_pos hke] at HF
            clear hE he3
            have hpl2 : (flatF pre).length ≤ 10000 := by rw [length_flatF]; omega
            have hown5 := HOW.out.1.other O5.out (fun _ _ h => h)
            have oA : Only Nob w5 (w5.alloc (.cells #[.int .i64 (k : Int), .int .i64 (e : Int)] 3)) := Only.alloc _ _ _
            have hownA := hown5.other oA (fun _ _ h => h)
            have hcA : (w5.alloc (.cells #[.int .i64 (k : Int), .int .i64 (e : Int)] 3)).heap[w5.heap.size]? = some (.cells #[.int .i64 (k : Int), .int .i64 (e : Int)] 3 (0, 0)) := heap_alloc_new _ _
            have OA := Lib.hid ((HO.out.nob O5.out).nob oA)
            clear hown5 oA
            go_wp2_with (first | (at_builtin; refine wpList_append_two rfl _ _ rfl _ _ rfl hownA _ k e rfl hcA hpl2 ?_) | fail)
            intro v' w' ho' on' hb'
            have HZ := Lib.hid (show RFRel p s w v' (.int .i64 (e : Int)) w' from by
              refine ⟨pre ++ [(k, e)], e, f, rfl, he2, by omega, by rw [HF.out]; simp, by simp; omega, by rw [flatF_snoc]; exact ho', fun i hi => ?_, OA.out.trans on' (fun i hi hx => ?_)⟩
              · rcases hb' i hi with h | h
                · exact HOW.out.2 i h
                · have := (HO.out.nob O5.out).size
                  omega
              · have := HOW.out.2 i hx
                omega)
            obtain ⟨ao3, cap3, rfl⟩ := ho'.form
            clear ho' on' hb'
            go_wp2_with fail
            go_roundw
            case rel => exact HZ.out
            case measure => simp [intOf]; omega
        · obtain rfl : e = k := by omega
          rw [if_neg hke] at hE
          rw [he3, hE, if_neg hke] at HF
          clear hE he3
          have hw3 : IntKind.i64.wrap ((e : Int) + 1) = ((e + 1 : Nat) : Int) := by rw [IntWalk.i64_in _ (by omega)]; omega
          go_wp2_with fail
          go_roundw
          case rel => exact ⟨pre, e + 1, f, congrArg (Value.int .i64) (by omega), by omega, by omega, HF.out, by omega, HOW.out.1.other O5.out (fun _ _ h => h), HOW.out.2, HO.out.nob O5.out⟩
          case measure => simp [intOf]; omega
    · obtain rfl : k = s.length := by omega
      rw [show ∀ f, findF p s f s.length = [] from fun f => by cases f with | zero => rfl | succ f => simp [findF], List.append_nil] at HF
      go_wp2
      go_ret
      exact ⟨_, rfl, by rw [HE.out, HF.out]; exact HOW.out.1, HO.out⟩

set_option maxRecDepth 100000 in
theorem rcount_finds (v : Value) (p : List Pc) (s : List UInt8) (w : World) (hp : Pcs w v p) (fp : Fair p) (hs : s.length ≤ 1000) :
    Calls Tryd.prog 35 #[v, .string ⟨s.toArray⟩] w fun e w' => e = .returned (.int .i64 ((findsL p s).length : Nat)) ∧ Only Nob w w' := by
  obtain ⟨ao, cap, rfl⟩ := hp.form
  have R := Lib.hid (rfinds_any _ p s w hp fp hs)
  have hl := length_flatF (findsL p s)
  have hle : (findsL p s).length ≤ 1000 := Nat.le_trans (finds_spans p s).2 hs
  have hw : wrap64 (((flatF (findsL p s)).length : Int) / 2) = ((findsL p s).length : Int) := by
    unfold wrap64
    omega
  clear hl hp
  generalize findsL p s = L at *
  go_enter Tryd.func35, Tryd.ntmps35
  go_wp2_with fail
  refine R.out.mono ?_
  rintro e w2 ⟨ov, rfl, hown, o2⟩
  obtain ⟨ao2, cap2, rfl⟩ := hown.form
  have O2 := Lib.hid o2
  clear R o2 hown
  go_wp2
  go_ret
  exact ⟨congrArg (fun x => Ending.returned (.int .i64 x)) hw, O2.out⟩

set_option maxRecDepth 100000 in
set_option maxHeartbeats 1000000 in
theorem rfind_any (v : Value) (p : List Pc) (s : List UInt8) (n : Int) (w : World) (hp : Pcs w v p) (fp : Fair p) (hs : s.length ≤ 1000) (hn : Rng n) :
    Calls Tryd.prog 33 #[v, .string ⟨s.toArray⟩, .int .i64 n] w fun e w' => e = .returned (findV (findR (findsL p s) n)) ∧ Only Nob w w' := by
  obtain ⟨ao, cap, rfl⟩ := hp.form
  have R := Lib.hid (rfinds_any _ p s w hp fp hs)
  have hl := length_flatF (findsL p s)
  have hle : (findsL p s).length ≤ 1000 := Nat.le_trans (finds_spans p s).2 hs
  have hw : wrap64 (((flatF (findsL p s)).length : Int) / 2) = ((findsL p s).length : Int) := by
    unfold wrap64
    omega
  clear hp
  generalize findsL p s = L at *
  by_cases h1 : n < 1
  · have HR : Hid (findR L n = (0, 0, false)) := by unfold findR; show _ = _; rw [if_neg (by omega)]
    clear hl
    go_enter Tryd.func33, Tryd.ntmps33
    go_wp2_with fail
    refine R.out.mono ?_
    rintro e w2 ⟨ov, rfl, hown, o2⟩
    obtain ⟨ao2, cap2, rfl⟩ := hown.form
    have O2 := Lib.hid o2
    clear R o2 hown
    go_wp2
    go_ret3
    exact ⟨by rw [HR.out]; rfl, O2.out⟩
  by_cases h2 : (L.length : Int) < n
  · have HR : Hid (findR L n = (0, 0, false)) := by unfold findR; show _ = _; rw [if_neg (by omega)]
    clear hl
    go_enter Tryd.func33, Tryd.ntmps33
    go_wp2_with fail
    refine R.out.mono ?_
    rintro e w2 ⟨ov, rfl, hown, o2⟩
    obtain ⟨ao2, cap2, rfl⟩ := hown.form
    have O2 := Lib.hid o2
    clear R o2 hown
    go_wp2
    go_ret3
    exact ⟨by rw [HR.out]; rfl, O2.out⟩
  obtain ⟨m, rfl⟩ : ∃ m : Nat, n = (m : Int) + 1 := ⟨(n - 1).toNat, by omega⟩
  have hm : m < L.length := by omega
  have HR : Hid (findR L ((m : Int) + 1) = (L[m].1, L[m].2, true)) := by
    show _ = _
    unfold findR
    rw [if_pos (by omega), show ((m : Int) + 1).toNat - 1 = m by omega]
    simp [List.getD_eq_getElem?_getD, hm]
  obtain ⟨g1, g2⟩ := flatF_get L m hm
  generalize L[m].1 = a at *
  generalize L[m].2 = b at *
  have hw1 : IntKind.i64.wrap (2 * ((m : Int) + 1)) = 2 * ((m : Int) + 1) := IntWalk.i64_in _ (by omega)
  have hw2 : IntKind.i64.wrap (2 * ((m : Int) + 1) - 2) = ((2 * m : Nat) : Int) := by rw [IntWalk.i64_in _ (by omega)]; omega
  have hw3 : IntKind.i64.wrap (2 * ((m : Int) + 1) - 1) = ((2 * m + 1 : Nat) : Int) := by rw [IntWalk.i64_in _ (by omega)]; omega
  have i1 : 2 * m < (flatF L).length := by omega
  have i2 : 2 * m + 1 < (flatF L).length := by omega
  clear hl h1 h2
  obtain ⟨j1, hj1⟩ : ∃ j, j = 2 * m := ⟨_, rfl⟩
  obtain ⟨j2, hj2⟩ : ∃ j, j = 2 * m + 1 := ⟨_, rfl⟩
  rw [← hj1] at hw2 i1 g1
  rw [← hj2] at hw3 i2 g2
  have h1 : ¬ ((m : Int) + 1 < 1) := by omega
  have h2 : ¬ ((L.length : Int) < (m : Int) + 1) := by omega
  have i3 : (j1 : Int) < ((flatF L).length : Int) := by omega
  have i4 : (j2 : Int) < ((flatF L).length : Int) := by omega
  clear hj1 hj2
  have G1 := Lib.hid g1
  have G2 := Lib.hid g2
  clear g1 g2
  go_enter Tryd.func33, Tryd.ntmps33
  go_wp2_with fail
  refine R.out.mono ?_
  rintro e w2 ⟨ov, rfl, hown, o2⟩
  obtain ⟨ao2, cap2, rfl⟩ := hown.form
  obtain ⟨g, rfl, -, -, c1⟩ := hown.cell G1.out
  obtain ⟨g', hg, -, -, c2⟩ := hown.cell G2.out
  obtain rfl : g = g' := by simpa using hg
  have O2 := Lib.hid o2
  clear R o2 hown hg
  go_wp2_with fail
  go_region_held3 (fun w' => w'.cell? ⟨g, j1, none⟩ = some (.int .i64 (a : Int)) ∧ w'.cell? ⟨g, j2, none⟩ = some (.int .i64 (b : Int))) (exact ⟨c1, c2⟩) (fail)
  go_wp2
  go_ret3
  exact ⟨by rw [HR.out]; rfl, O2.out.nob (Only.drew _ _)⟩

end Go.Proofs.YtddjbfmohibgbaaDoor
