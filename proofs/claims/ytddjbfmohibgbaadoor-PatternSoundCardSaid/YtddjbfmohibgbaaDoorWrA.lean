/- Chapter 05: written forms; right patterns; Print. -/
import Derived.Test.YtddjbfmohibgbaaDoorNumA

/- The written form of pieces that are right: the program's function. -/
namespace Go.Proofs.YtddjbfmohibgbaaDoor
open Go.RowKit

/-- The builder of 'written' after so many bytes. -/
def WBd (w : World) (b : Nat) (l : List UInt8) (wr : World) : Prop :=
  ∃ v, Bd wr b v l ∧ (∀ k, Blk v k → w.heap.size ≤ k) ∧ Only Nob w wr

theorem WBd.quiet {w : World} {b : Nat} {l : List UInt8} {w1 w2 : World} (h : WBd w b l w1) (o : Only Nob w1 w2) : WBd w b l w2 := by
  obtain ⟨v, h1, h2, h3⟩ := h
  exact ⟨v, h1.other o (fun h => h) (fun _ _ h => h), h2, h3.nob o⟩

theorem WBd.step {w : World} {b : Nat} {l' : List UInt8} {r : Value} {v : Value} {w1 w2 : World} {e : Ending} (hb : w.heap.size ≤ b) (h2 : ∀ k, Blk v k → w.heap.size ≤ k) (h3 : Only Nob w w1) (h : WrPost b v l' r w1 e w2) : e = .returned r ∧ WBd w b l' w2 := by
  obtain ⟨v', he, h1, o, hf⟩ := h
  have z := h3.size
  refine ⟨he, v', h1, fun k hk => ?_, h3.trans o (fun i hi hx => ?_)⟩
  · rcases hf k hk with h | h
    · exact h2 k h
    · omega
  · rcases hx with rfl | hx
    · omega
    · have := h2 i hx; omega

theorem Only.below_end {w wr w2 : World} (hon : Only Nob w wr) (h : Below w.heap.size wr w2) : Only Nob w w2 := hon.trans (only_of_below h) (fun _ hi hx => absurd hi (Nat.not_lt.2 hx))

/-- Right pieces, not too many, with short texts. -/
def Good (p : List Pc) : Prop := p.length ≤ 60 ∧ ∀ x ∈ p, (runB x = true ∨ plainB x = true) ∧ x.t.length ≤ 1000

/-- The builder beside the bytes of a text. -/
def LitAt (w : World) (b : Nat) (l t : List UInt8) (g : Nat) (wr : World) : Prop :=
  ∃ v, Bd wr b v l ∧ (∀ k, Blk v k → w.heap.size ≤ k ∧ k ≠ g) ∧ Only Nob w wr ∧ g < wr.heap.size ∧ ∀ i (h : i < t.length), wr.cell? ⟨g, i, none⟩ = some (.int .u8 t[i].toNat)

theorem LitAt.step {w : World} {b : Nat} {l l' t : List UInt8} {g : Nat} {v r : Value} {w1 w2 : World} {e : Ending} (hb : w.heap.size ≤ b) (hbg : b ≠ g) (h1 : Bd w1 b v l) (h2 : ∀ k, Blk v k → w.heap.size ≤ k ∧ k ≠ g) (h3 : Only Nob w w1) (h4 : g < w1.heap.size)
    (h5 : ∀ i (h : i < t.length), w1.cell? ⟨g, i, none⟩ = some (.int .u8 t[i].toNat)) (h : WrPost b v l' r w1 e w2) : e = .returned r ∧ LitAt w b l' t g w2 := by
  obtain ⟨v', he, k1, o, hf⟩ := h
  have z := h3.size
  have hng : ¬ (g = b ∨ Blk v g) := by
    rintro (h | h)
    · exact hbg h.symm
    · exact (h2 g h).2 rfl
  refine ⟨he, v', k1, fun k hk => ?_, h3.trans o (fun i hi hx => ?_), Nat.lt_of_lt_of_le h4 o.size, fun i hi => (o.cell (a := ⟨g, i, none⟩) h4 hng).trans (h5 i hi)⟩
  · rcases hf k hk with h | h
    · exact h2 k h
    · exact ⟨by omega, by omega⟩
  · rcases hx with rfl | hx
    · omega
    · have := (h2 i hx).1; omega

theorem names_slice (j : Nat) (hj : j < 7) (w : World) : (Instr.slice 9 (.string ⟨#[100, 117, 108, 97, 115, 111, 46]⟩) (some (.int .i64 (j : Int))) (some (.int .i64 ((j : Int) + 1))) none).run Tryd.prog w = .ok (.string ⟨#[names.getD j 0]⟩) w := by
  have h := run_slice_string (P := Tryd.prog) (w := w) 9 ⟨#[100, 117, 108, 97, 115, 111, 46]⟩ .i64 .i64 (j : Int) ((j : Int) + 1) Tryd.underlying9 (by omega) (by omega) (by show ((j : Int) + 1) ≤ 7; omega)
  rw [h]
  have hc : j = 0 ∨ j = 1 ∨ j = 2 ∨ j = 3 ∨ j = 4 ∨ j = 5 ∨ j = 6 := by omega
  rcases hc with rfl | rfl | rfl | rfl | rfl | rfl | rfl <;> rfl

set_option maxRecDepth 100000 in
set_option maxHeartbeats 4000000 in
theorem written_any (v : Value) (p : List Pc) (w : World) (hp : Pcs w v p) (hg : Good p) (ht : Tab w) : Calls Tryd.prog 58 #[v] w (StrPost (writtenS p) w) := by
  obtain ⟨ao, cap, rfl⟩ := hp.form
  have hlen := hg.1
  have HB : WBd w w.heap.size [] (w.alloc (.cells #[.pointer none, .slice none 0 0] 123)) := ⟨_, Bd.new w, fun k hk => by simp [Blk, Value.ownBlock] at hk, Only.alloc _ _ _⟩
  go_enter Tryd.func58, Tryd.ntmps58
  go_wp2_with fail
  go_loopw [10] (fun i wr => ∃ k : Nat, k ≤ p.length ∧ i = .int .i64 k ∧ WBd w w.heap.size (writtenS (p.take k)) wr) (fun i _ => p.length - (intOf i).toNat)
  case atStart => exact ⟨0, Nat.zero_le _, rfl, HB⟩
  case round =>
    obtain ⟨k, hk, rfl, hw⟩ := hrel
    clear HB
    obtain ⟨b0, hb0⟩ : ∃ b0, b0 = w.heap.size := ⟨_, rfl⟩
    by_cases hlt : k < p.length
    · obtain ⟨hx1, hx2⟩ := hg.2 _ (List.getElem_mem hlt)
      have hws := Lib.hid (show writtenS (p.take (k + 1)) = writtenS (p.take k) ++ pieceS p[k] by rw [List.take_succ_eq_append_getElem hlt, writtenS_snoc])
      have hwl := writtenS_len 1000 (p.take k) (fun y hy => (hg.2 y (List.mem_of_mem_take hy)).2)
      have hwl2 : (p.take k).length ≤ 60 := by rw [List.length_take]; omega
      have hwl3 : (writtenS (p.take k)).length ≤ 200000 := Nat.le_trans hwl (by omega)
      obtain ⟨vb, hbd, hfar, hon⟩ := hw
      obtain ⟨b, off, rfl, hb, hat⟩ := (hp.nob hon).at hlt
      obtain ⟨e0, e1, e2, e3⟩ := hat
      generalize p[k] = x at hx1 hx2 hws e0 e1 e2 e3
      generalize writtenS (p.take k) = L at hws hwl3 hbd
      obtain ⟨c, l, m, t⟩ := x
      simp only at e0 e1 e2 e3
      have HT := Lib.hid (ht.other hon)
      have hz := hon.size
      clear hwl hwl2
      have kk : (k : Int) < (p.length : Int) := by omega
      by_cases hr : runB ⟨c, l, m, t⟩ = true
      · obtain ⟨q1, q2, q3, q4, q5, q6, q7⟩ := runB_iff.1 hr
        simp only at q1 q2 q3 q4 q5 q6 q7
        subst q7
        have C := Lib.hid (count_any ⟨c, l, m, []⟩ · hr)
        obtain ⟨j, rfl⟩ : ∃ j : Nat, c = ((j : Nat) : Int) + 1 := ⟨(c - 1).toNat, by omega⟩
        have hj : j < 7 := by omega
        have oB : Only Nob wr (wr.alloc (.cells #[.int .i64 ((j : Int) + 1), .int .i64 l, .int .i64 m, .string ⟨#[]⟩] 31)) := Only.alloc _ _ _
        have HX := Lib.hid (show ∀ w', Only Nob (wr.alloc (.cells #[.int .i64 ((j : Int) + 1), .int .i64 l, .int .i64 m, .string ⟨#[]⟩] 31)) w' → PcAt w' wr.heap.size 0 ⟨(j : Int) + 1, l, m, []⟩ from fun w' o => PcAt.other (by unfold PcAt; simp) o (fun h => h))
        have c0 := HX.out _ (Only.drew Nob _)
        unfold PcAt at c0
        simp only [Nat.zero_add] at c0
        have HX2 := Lib.hid (fun w' o => HX.out w' o)
        have HT2 := Lib.hid (show ∀ w', Only Nob wr w' → Tab w' from fun w' o => HT.out.other o)
        clear hr
        have w1 : IntKind.i64.wrap (j : Int) = (j : Int) := IntWalk.i64_in _ (by omega)
        have sl := names_slice j hj
        obtain ⟨NB, hNB⟩ : ∃ NB : ByteArray, NB = ⟨#[names.getD j 0]⟩ := ⟨_, rfl⟩
        have n1 : NB.size = 1 := by rw [hNB]; rfl
        rw [← hNB] at sl
        obtain ⟨CB, hCB⟩ : ∃ CB : ByteArray, CB = ⟨(countS ⟨(j : Int) + 1, l, m, []⟩).toArray⟩ := ⟨_, rfl⟩
        have n2 : CB.size ≤ 9 := by rw [hCB]; exact length_countS _
        have hp1 : L ++ (⟨#[92]⟩ ++ NB ++ CB : ByteArray).data.toList = L ++ pieceS ⟨(j : Int) + 1, l, m, []⟩ := by
          rw [hNB, hCB]
          unfold pieceS
          rw [if_pos (by show (0 : Int) < (j : Int) + 1; omega)]
          simp [ByteArray.data_append]
        have HP := Lib.hid hp1
        clear hp1
        unfold StrPost pcV SV at C
        simp only [← hCB] at C
        have s1 : ∀ w, (Op.stringOp .add ⟨#[92]⟩ NB).run Tryd.prog w = .ok (.string (⟨#[92]⟩ ++ NB)) w := fun w => run_string_add_sum w _ _ (by simp only [sz1]; omega)
        have s2 : ∀ w, (Op.stringOp .add (⟨#[92]⟩ ++ NB) CB).run Tryd.prog w = .ok (.string (⟨#[92]⟩ ++ NB ++ CB)) w := fun w => run_string_add_sum w _ _ (by simp only [ByteArray.size_append', sz1]; omega)
        have hsz : (⟨#[92]⟩ ++ NB ++ CB : ByteArray).size ≤ 100 := by simp only [ByteArray.size_append', sz1]; omega
        have HS := Lib.hid hsz
        have hL4 : L.length + (⟨#[92]⟩ ++ NB ++ CB : ByteArray).size ≤ 140737488355328 := by omega
        have HL := Lib.hid hL4
        have HB2 := Lib.hid (show ∀ w', Only Nob wr w' → Bd w' w.heap.size vb L from fun w' o => hbd.other o (fun h => h) (fun _ _ h => h))
        have HX3 := Lib.hid (show ∀ w2 w3 e l' r, Only Nob (wr.alloc (.cells #[.int .i64 ((j : Int) + 1), .int .i64 l, .int .i64 m, .string ⟨#[]⟩] 31)) w2 → WrPost w.heap.size vb l' r w2 e w3 → PcAt w3 wr.heap.size 0 ⟨(j : Int) + 1, l, m, []⟩ from fun w2 w3 e l' r o2 h => by
          obtain ⟨_, _, _, o3, _⟩ := h
          refine (HX.out _ o2).other o3 (fun hx => ?_)
          rcases hx with hx | hx
          · have := hbd.lt; omega
          · have := (hbd.blk hx).1; omega)
        clear hNB hCB hsz hL4
        go_wp2_with fail
        go_region_held3 (fun w' => w'.cell? ⟨wr.heap.size, 0, none⟩ = some (.int .i64 ((j : Int) + 1)) ∧ w'.cell? ⟨wr.heap.size, 1, none⟩ = some (.int .i64 l) ∧ w'.cell? ⟨wr.heap.size, 2, none⟩ = some (.int .i64 m) ∧ w'.cell? ⟨wr.heap.size, 3, none⟩ = some (.string ⟨#[]⟩))
          (first | exact c4 | exact c3 | exact c0 | fail)
          (first
            | (go_at_call 101; (with_reducible refine (C.out _ (HT2.out _ (Only.nob oB (Only.drew Nob _)))).mono ?_); rintro e w2 ⟨rfl, o2⟩; have c3 := HX2.out _ (Only.nob (Only.drew Nob _) o2))
            | (go_at_call 100; (with_reducible refine (write_string _ _ _ _ _ (HB2.out _ (Only.nob (Only.nob oB (Only.drew Nob _)) o2)) HL.out).mono ?_); intro e w3 h3; have c4 := HX3.out _ _ _ _ _ (Only.nob (Only.drew Nob _) o2) h3; have h4 := Lib.hid h3; obtain ⟨v3, rfl, -⟩ := h3)
            | fail)
        have H4 := WBd.step (w := w) (Nat.le_refl _) hfar (Only.nob (Only.nob (Only.nob hon oB) (Only.drew Nob _)) o2) h4.out
        rw [HP.out, ← hws.out] at H4
        have H5 := Lib.hid H4.2
        clear H4 h4 c4 c3 c0
        go_wp2
        go_roundw
        case rel => exact ⟨k + 1, by omega, by go_num, H5.out⟩
        case measure => simp [intOf]; omega
      · obtain ⟨q1, q2, q3, q4, q5⟩ := plainB_iff.1 (hx1.resolve_left hr)
        simp only at q1 q2 q3 q4 q5
        subst q1 q2 q3
        clear hr hx1
        have hcv := run_bytes (wr.alloc (.cells #[.int .i64 0, .int .i64 0, .int .i64 0, .string ⟨t.toArray⟩] 31)) ⟨t.toArray⟩
        have oB : Only Nob wr (Lib.bytesWorld (wr.alloc (.cells #[.int .i64 0, .int .i64 0, .int .i64 0, .string ⟨t.toArray⟩] 31)) 5 ⟨t.toArray⟩) := (Only.alloc _ _ _).nob (bytesWorld_only _ _)
        have hts : (⟨t.toArray⟩ : ByteArray).size = t.length := rfl
        have hgz : (Lib.bytesWorld (wr.alloc (.cells #[.int .i64 0, .int .i64 0, .int .i64 0, .string ⟨t.toArray⟩] 31)) 5 ⟨t.toArray⟩).heap.size = wr.heap.size + 1 + 1 := by rw [Lib.bytesWorld_size]; simp
        have HL : LitAt w w.heap.size L t (wr.heap.size + 1) (Lib.bytesWorld (wr.alloc (.cells #[.int .i64 0, .int .i64 0, .int .i64 0, .string ⟨t.toArray⟩] 31)) 5 ⟨t.toArray⟩) := by
          refine ⟨vb, hbd.other oB (fun h => h) (fun _ _ h => h), fun k hk => ⟨hfar k hk, ?_⟩, hon.nob oB, by omega, fun i hi => ?_⟩
          · have := (hbd.blk hk).1; omega
          · have h := Lib.bytesWorld_cell (wr.alloc (.cells #[.int .i64 0, .int .i64 0, .int .i64 0, .string ⟨t.toArray⟩] 31)) 5 ⟨t.toArray⟩ i hi
            rw [World.size_alloc] at h
            rw [h, getD_lt _ (show i < (⟨t.toArray⟩ : ByteArray).data.toList.length from hi)]
        have HG := Lib.hid (show w.heap.size ≠ wr.heap.size + 1 by omega)
        have HL := Lib.hid HL
        generalize Lib.bytesWorld (wr.alloc (.cells #[.int .i64 0, .int .i64 0, .int .i64 0, .string ⟨t.toArray⟩] 31)) 5 ⟨t.toArray⟩ = w1 at hcv HL hgz
        generalize grownCap (wr.alloc (.cells #[.int .i64 0, .int .i64 0, .int .i64 0, .string ⟨t.toArray⟩] 31)) (⟨t.toArray⟩ : ByteArray).size 0 5 = gc at hcv
        rw [World.size_alloc, hts] at hcv
        clear oB hts hgz hbd hfar hon
        generalize wr.heap.size + 1 = g at *
        go_wp2_with fail
        go_loopw [32] (fun i wi => ∃ j : Nat, j ≤ t.length ∧ i = .int .i64 j ∧ LitAt w w.heap.size (L ++ litS (t.take j)) t g wi) (fun i _ => t.length - (intOf i).toNat)
        case atStart => exact ⟨0, Nat.zero_le _, rfl, by have h := HL.out; simpa [litS] using h⟩
        case round =>
          obtain ⟨j, hj, rfl, hla⟩ := hrel
          clear HL hcv
          by_cases hjt : j < t.length
          · obtain ⟨v, h1, h2, h3, h4, h5⟩ := hla
            have hcell := h5 j hjt
            have hls := Lib.hid (show litS (t.take (j + 1)) = litS (t.take j) ++ (if special t[j] then [92, t[j]] else [t[j]]) by rw [List.take_succ_eq_append_getElem hjt, litS_snoc])
            have hll := length_litS (t.take j)
            have hlt3 : (t.take j).length ≤ 1000 := by rw [List.length_take]; omega
            have hl4 : (L ++ litS (t.take j)).length ≤ 300000 := by rw [List.length_append]; omega
            generalize t[j] = c at hcell hls
            have jj : (j : Int) < (t.length : Int) := by omega
            have HS := Lib.hid (fun l' r w2 e => LitAt.step (w := w) (b := w.heap.size) (l' := l') (r := r) (w2 := w2) (e := e) (Nat.le_refl _) HG.out h1 h2 h3 h4 h5)
            have H1 := Lib.hid h1
            clear h1 h2 h3 h4 h5 hll hlt3
            cases hsp : special c
            · have I := Lib.hid (idx_special c)
              rw [idxS_no hsp] at I
              have HE : Hid (L ++ litS (t.take (j + 1)) = L ++ litS (t.take j) ++ [c]) := by
                rw [hls.out, hsp]
                simp [Hid]
              clear hsp hls
              go_wp2_with fail
              refine (I.out _).mono ?_
              rintro e w' ⟨rfl, rfl⟩
              go_wp2_with fail
              refine (write_byte _ _ _ c _ H1.out (by omega)).mono ?_
              intro e w3 h3
              have h4 := HS.out _ _ _ _ h3
              obtain ⟨rfl, h4⟩ := h4
              rw [← HE.out] at h4
              have H4 := Lib.hid h4
              clear h3 h4
              go_wp2
              go_roundw
              case rel => exact ⟨j + 1, by omega, by go_num, H4.out⟩
              case measure => simp [intOf]; omega
            · have I := Lib.hid (idx_special c)
              have hi0 := idxS_yes hsp
              have HE : Hid (L ++ litS (t.take (j + 1)) = L ++ litS (t.take j) ++ [92] ++ [c]) := by
                rw [hls.out, hsp]
                simp [Hid]
              clear hsp hls
              generalize idxS c = ix at I hi0
              go_wp2_with fail
              refine (I.out _).mono ?_
              rintro e w' ⟨rfl, rfl⟩
              go_wp2_with fail
              refine (write_byte _ _ _ 92 _ H1.out (by omega)).mono ?_
              intro e w3 h3
              have h4 := HS.out _ _ _ _ h3
              obtain ⟨rfl, v5, k1, k2, k3, k4, k5⟩ := h4
              have HS2 := Lib.hid (fun l' r w2 e => LitAt.step (w := w) (b := w.heap.size) (l' := l') (r := r) (w2 := w2) (e := e) (Nat.le_refl _) HG.out k1 k2 k3 k4 k5)
              have K1 := Lib.hid k1
              clear h3 k1 k2 k3 k4 k5 HS H1
              go_wp2_with fail
              refine (write_byte _ _ _ c _ K1.out (by simp only [List.length_append, List.length_cons, List.length_nil] at hl4 ⊢; omega)).mono ?_
              intro e w4 h3
              have h4 := HS2.out _ _ _ _ h3
              obtain ⟨rfl, h4⟩ := h4
              rw [← HE.out] at h4
              have H4 := Lib.hid h4
              clear h3 h4
              go_wp2
              go_roundw
              case rel => exact ⟨j + 1, by omega, by go_num, H4.out⟩
              case measure => simp [intOf]; omega
          · obtain rfl : j = t.length := by omega
            obtain ⟨v, h1, h2, h3, h4, h5⟩ := hla
            have HW : Hid (WBd w w.heap.size (writtenS (p.take (k + 1))) wr) := by
              rw [hws.out]
              have e : pieceS ⟨0, 0, 0, t⟩ = litS t := by unfold pieceS; rw [if_neg (by show ¬ (0 : Int) < 0; omega)]
              rw [e]
              rw [List.take_of_length_le (Nat.le_refl _)] at h1
              exact ⟨v, h1, fun k hk => (h2 k hk).1, h3⟩
            clear h1 h2 h3 h4 h5
            go_wp2
            go_roundw
            case rel => exact ⟨k + 1, by omega, by go_num, HW.out⟩
            case measure => simp [intOf]; omega
    · obtain rfl : k = p.length := by omega
      obtain ⟨vb, hbd, hfar, hon⟩ := hw
      rw [List.take_of_length_le (Nat.le_refl _)] at hbd
      go_wp2_with fail
      refine (bd_string w.heap.size w.heap.size vb _ _ hbd (Nat.le_refl _) hfar).mono ?_
      rintro e w2 ⟨rfl, hbl⟩
      go_wp2
      go_ret
      exact ⟨rfl, hon.below_end hbl⟩

end Go.Proofs.YtddjbfmohibgbaaDoor

/- Whether pieces are a right pattern: the program's function; Print. -/
namespace Go.Proofs.YtddjbfmohibgbaaDoor
open Go.RowKit

/-- Where the test of a run fails. -/
theorem runB_no {x : Pc} (h : runB x = false) : x.c ≤ 0 ∨ (0 < x.c ∧ (7 < x.c ∨ (x.c ≤ 7 ∧ (x.l < 0 ∨ (0 ≤ x.l ∧ (x.m < x.l ∨ (x.l ≤ x.m ∧ (x.m ≤ 0 ∨ (0 < x.m ∧ (200 < x.m ∨ (x.m ≤ 200 ∧ x.t ≠ []))))))))))) := by
  by_cases h1 : 0 < x.c
  · by_cases h2 : x.c ≤ 7
    · by_cases h3 : 0 ≤ x.l
      · by_cases h4 : x.l ≤ x.m
        · by_cases h5 : 0 < x.m
          · by_cases h6 : x.m ≤ 200
            · exact .inr ⟨h1, .inr ⟨h2, .inr ⟨h3, .inr ⟨h4, .inr ⟨h5, .inr ⟨h6, fun h7 => by rw [runB_iff.2 ⟨h1, h2, h3, h4, h5, h6, h7⟩] at h; cases h⟩⟩⟩⟩⟩⟩
            · exact .inr ⟨h1, .inr ⟨h2, .inr ⟨h3, .inr ⟨h4, .inr ⟨h5, .inl (by omega)⟩⟩⟩⟩⟩
          · exact .inr ⟨h1, .inr ⟨h2, .inr ⟨h3, .inr ⟨h4, .inl (by omega)⟩⟩⟩⟩
        · exact .inr ⟨h1, .inr ⟨h2, .inr ⟨h3, .inl (by omega)⟩⟩⟩
      · exact .inr ⟨h1, .inr ⟨h2, .inl (by omega)⟩⟩
    · exact .inr ⟨h1, .inl (by omega)⟩
  · exact .inl (by omega)

/-- Where the test of a literal fails, at a piece without a class. -/
theorem plainB_no {x : Pc} (h : plainB x = false) : x.c ≠ 0 ∨ (x.c = 0 ∧ (x.l ≠ 0 ∨ (x.l = 0 ∧ (x.m ≠ 0 ∨ (x.m = 0 ∧ (x.t = [] ∨ (x.t ≠ [] ∧ allB x.t 7 = false)))))) ) := by
  by_cases h1 : x.c = 0
  · by_cases h2 : x.l = 0
    · by_cases h3 : x.m = 0
      · by_cases h4 : x.t = []
        · exact .inr ⟨h1, .inr ⟨h2, .inr ⟨h3, .inl h4⟩⟩⟩
        · cases h5 : allB x.t 7
          · exact .inr ⟨h1, .inr ⟨h2, .inr ⟨h3, .inr ⟨h4, rfl⟩⟩⟩⟩
          · rw [plainB_iff.2 ⟨h1, h2, h3, h4, h5⟩] at h; cases h
      · exact .inr ⟨h1, .inr ⟨h2, .inl h3⟩⟩
    · exact .inr ⟨h1, .inl h2⟩
  · exact .inl h1

theorem not_empty {t : List UInt8} (h : t ≠ []) : (⟨t.toArray⟩ : ByteArray).data.toList ≠ [] := h

def RightRel (w : World) (p : List Pc) (lv iv : Value) (wr : World) : Prop :=
  ∃ k : Nat, k ≤ p.length ∧ iv = .int .i64 k ∧ lv = .bool (litAt false (p.take k)) ∧ okFrom false (p.take k) = true ∧ Only Nob w wr

theorem okFrom_not {p : List Pc} {k : Nat} (h : okFrom false (p.take k) = false) : rightB p = false := by
  have : okFrom false p = false := by
    cases he : okFrom false p
    · rfl
    · rw [← List.take_append_drop k p] at he
      rw [okFrom_prefix he] at h; cases h
  unfold rightB
  rw [this]; rfl

set_option maxRecDepth 100000 in
set_option maxHeartbeats 4000000 in
theorem right_any (v : Value) (p : List Pc) (w : World) (hp : Pcs w v p) (hg : Fair p) (ht : Tab w) : Calls Tryd.prog 57 #[v] w (BoolPost (rightB p) w) := by
  obtain ⟨ao, cap, rfl⟩ := hp.form
  have hlen := hg.1
  have HB : RightRel w p (.bool false) (.int .i64 (0 : Nat)) w := ⟨0, Nat.zero_le _, rfl, rfl, rfl, Only.refl _ _⟩
  go_enter Tryd.func57, Tryd.ntmps57
  go_wp2_with fail
  go_loopw [3, 10] (fun lv i wr => RightRel w p lv i wr) (fun _ i _ => p.length - (intOf i).toNat)
  case atStart => exact HB
  case round =>
    obtain ⟨k, hk, rfl, rfl, hok, hon⟩ := hrel
    clear HB
    by_cases hlt : k < p.length
    · obtain ⟨hx1, hx2, hx3, hx4⟩ := hg.2 _ (List.getElem_mem hlt)
      obtain ⟨b, off, rfl, hb, e0, e1, e2, e3⟩ := (hp.nob hon).at hlt
      have hs := Lib.hid (show okFrom false (p.take (k + 1)) = ((runB p[k] || plainB p[k]) && !(plainB p[k] && litAt false (p.take k))) by rw [List.take_succ_eq_append_getElem hlt, okFrom_snoc, hok]; simp)
      have hs2 := Lib.hid (show litAt false (p.take (k + 1)) = plainB p[k] by rw [List.take_succ_eq_append_getElem hlt, litAt_snoc])
      generalize p[k] = x at hx1 hx2 hx3 hx4 hs hs2 e0 e1 e2 e3
      generalize litAt false (p.take k) = lb at hs ⊢
      obtain ⟨c, l, m, t⟩ := x
      simp only at e0 e1 e2 e3 hx1 hx2 hx3 hx4
      have kk : (k : Int) < (p.length : Int) := by omega
      have HO := Lib.hid hon
      clear hok hon
      cases hr : runB ⟨c, l, m, t⟩
      · rcases runB_no hr with h1 | ⟨h1, h2⟩
        · simp only at h1
          cases hq : plainB ⟨c, l, m, t⟩
          · have HF : Hid (okFrom false (p.take (k + 1)) = false) := by rw [hs.out, hr, hq]; rfl
            have hn := plainB_no hq
            simp only at hn
            clear hs hs2 hr hq
            rcases hn with h2 | ⟨rfl, h2 | ⟨rfl, h2 | ⟨rfl, rfl | ⟨h2, h3⟩⟩⟩⟩
            case' inl => have b1 : (c == 0) = false := by simp; omega
            case' inr.inl => have b1 : (l == 0) = false := by simp; omega
            case' inr.inr.inl => have b1 : (m == 0) = false := by simp; omega
            case' inr.inr.inr.inr =>
              have A := Lib.hid (fun w => all_any ⟨t.toArray⟩ 7 w (show t.length ≤ _ by omega))
              have e : allB (⟨t.toArray⟩ : ByteArray).data.toList 7 = false := h3
              rw [e] at A
              have b1 : t.isEmpty = false := by simpa using h2
              clear e h3
            all_goals
              go_wp2_with (go_at_call 99; refine (A.out _).mono ?_; rintro e w2 ⟨rfl, o2⟩)
              go_ret
              first
                | exact ⟨ret_bool (okFrom_not HF.out).symm, (HO.out.nob (Only.alloc _ _ _)).nob o2⟩
                | exact ⟨ret_bool (okFrom_not HF.out).symm, HO.out.nob (Only.alloc _ _ _)⟩
          · obtain ⟨q1, q2, q3, q4, q5⟩ := plainB_iff.1 hq
            simp only at q1 q2 q3 q4 q5
            subst q1 q2 q3
            have A := Lib.hid (fun w => all_any ⟨t.toArray⟩ 7 w (show t.length ≤ _ by omega))
            have e : allB (⟨t.toArray⟩ : ByteArray).data.toList 7 = true := q5
            rw [e] at A
            have b1 : t.isEmpty = false := by simpa using q4
            rw [hr, hq] at hs
            rw [hq] at hs2
            clear e q5 q4 hr hq h1
            cases lb
            · go_wp2_with (go_at_call 99; refine (A.out _).mono ?_; rintro e w2 ⟨rfl, o2⟩)
              go_roundw
              case rel => exact ⟨k + 1, by omega, by go_num, by rw [hs2.out], by rw [hs.out]; rfl, (HO.out.nob (Only.alloc _ _ _)).nob o2⟩
              case measure => simp [intOf]; omega
            · have HF : Hid (okFrom false (p.take (k + 1)) = false) := by rw [hs.out]; rfl
              go_wp2_with (go_at_call 99; refine (A.out _).mono ?_; rintro e w2 ⟨rfl, o2⟩)
              go_ret
              exact ⟨ret_bool (okFrom_not HF.out).symm, (HO.out.nob (Only.alloc _ _ _)).nob o2⟩
        · simp only at h1 h2
          have hq : plainB ⟨c, l, m, t⟩ = false := by
            cases h : plainB ⟨c, l, m, t⟩
            · rfl
            · have := (plainB_iff.1 h).1; simp only at this; omega
          have HF : Hid (okFrom false (p.take (k + 1)) = false) := by rw [hs.out, hr, hq]; rfl
          have c0 : (c == 0) = false := by simp; omega
          clear hs hs2 hr hq
          rcases h2 with h2 | ⟨h2, h3 | ⟨h3, h4 | ⟨h4, h5 | ⟨h5, h6 | ⟨h6, h7⟩⟩⟩⟩⟩
          case' inr.inr.inr.inr.inr => have b1 : t.isEmpty = false := by simpa using h7
          all_goals
            go_wp2_with fail
            go_ret
            exact ⟨ret_bool (okFrom_not HF.out).symm, HO.out.nob (Only.alloc _ _ _)⟩
      · obtain ⟨q1, q2, q3, q4, q5, q6, q7⟩ := runB_iff.1 hr
        simp only at q1 q2 q3 q4 q5 q6 q7
        subst q7
        have hpl : plainB ⟨c, l, m, []⟩ = false := by
          cases h : plainB ⟨c, l, m, []⟩
          · rfl
          · have := (plainB_iff.1 h).1; simp only at this; omega
        rw [hr, hpl] at hs
        rw [hpl] at hs2
        have c0 : (c == 0) = false := by simp; omega
        clear hr hpl
        go_wp2_with fail
        go_roundw
        case rel => exact ⟨k + 1, by omega, by go_num, by rw [hs2.out], by rw [hs.out]; rfl, HO.out.nob (Only.alloc _ _ _)⟩
        case measure => simp [intOf]; omega
    · obtain rfl : k = p.length := by omega
      rw [List.take_of_length_le (Nat.le_refl _)] at hok
      have HR : Hid (Good p ∨ 60 < p.length) := by
        rcases Nat.lt_or_ge 60 p.length with h | h
        · exact .inr h
        · exact .inl ⟨h, fun x hx => ⟨okFrom_mem hok hx, (hg.2 x hx).2.2.2⟩⟩
      rcases HR.out with hgood | hbig
      · have hl60 := hgood.1
        have W := Lib.hid (written_any _ p wr (hp.nob hon) hgood (ht.other hon))
        have HE : Hid (rightB p = decide ((writtenS p).length ≤ 60)) := by
          unfold rightB
          rw [hok, decide_eq_true hl60]; rfl
        clear HR hok hgood
        go_wp2_with fail
        refine W.out.mono ?_
        rintro e w2 ⟨rfl, o2⟩
        by_cases hw : (writtenS p).length ≤ 60
        case' pos => have HE2 : Hid (rightB p = true) := by rw [HE.out, decide_eq_true hw]; rfl
        case' neg => have HE2 : Hid (rightB p = false) := by rw [HE.out, decide_eq_false hw]; rfl
        all_goals
          go_wp2
          go_ret
          refine ⟨ret_bool ?_, hon.nob o2⟩
          rw [HE2.out]
          first | rfl | (simp; omega)
      · have HE : Hid (rightB p = false) := by
          unfold rightB
          rw [decide_eq_false (Nat.not_le.2 hbig)]; simp [Hid]
        clear HR hok
        go_wp2_with fail
        go_ret
        exact ⟨ret_bool HE.out.symm, hon⟩

theorem okFrom_good {p : List Pc} (hg : Fair p) (h : rightB p = true) : Good p := by
  unfold rightB at h
  simp only [Bool.and_eq_true, decide_eq_true_eq] at h
  exact ⟨h.1.2, fun x hx => ⟨okFrom_mem h.1.1 hx, (hg.2 x hx).2.2.2⟩⟩

theorem print_any (v : Value) (p : List Pc) (w : World) (hp : Pcs w v p) (hg : Fair p) (ht : Tab w) : Calls Tryd.prog 18 #[v] w (StrPost (printS p) w) := by
  have R := Lib.hid (right_any v p w hp hg ht)
  cases hr : rightB p
  · rw [hr] at R
    have e : printS p = [] := by unfold printS; rw [hr]; rfl
    rw [e]
    clear e hr
    go_enter Tryd.func18, Tryd.ntmps18
    go_wp2_with (go_at_call 57; refine R.out.mono ?_; rintro e w2 ⟨rfl, o2⟩)
    go_ret
    exact ⟨rfl, o2⟩
  · rw [hr] at R
    have e : printS p = writtenS p := by unfold printS; rw [hr]; rfl
    have W := Lib.hid (fun w2 (o2 : Only Nob w w2) => written_any v p w2 (hp.nob o2) (okFrom_good hg hr) (ht.other o2))
    rw [e]
    clear e hr
    go_enter Tryd.func18, Tryd.ntmps18
    go_wp2_with fail
    refine R.out.mono ?_
    rintro e w2 ⟨rfl, o2⟩
    go_wp2_with fail
    refine (W.out _ o2).mono ?_
    rintro e w3 ⟨rfl, o3⟩
    go_wp2
    go_ret
    exact ⟨rfl, o2.nob o3⟩

end Go.Proofs.YtddjbfmohibgbaaDoor
