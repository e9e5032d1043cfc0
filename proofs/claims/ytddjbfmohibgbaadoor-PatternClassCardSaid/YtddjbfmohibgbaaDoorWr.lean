/- The written form of pieces that are right: the program's function. -/
import Derived.Test.YtddjbfmohibgbaaDoorPcs
import Derived.Test.YtddjbfmohibgbaaDoorBld
namespace Go.Proofs.YtddjbfmohibgbaaDoor
open Go.RowKit

/-- The builder of 'written' after so many bytes. -/
def WBd (w : World) (b : Nat) (l : List UInt8) (wr : World) : Prop :=
  ∃ v, Bd wr b v l ∧ (∀ k, Blk v k → w.heap.size ≤ k) ∧ Only Nob w wr

theorem WBd.quiet {w : World} {b : Nat} {l : List UInt8} {w1 w2 : World} (h : WBd w b l w1) (o : Only Nob w1 w2) : WBd w b l w2 := by
  obtain ⟨v, h1, h2, h3⟩ := h
  exact ⟨v, h1.other o (fun h => h) (fun _ _ h => h), h2, h3.nob o⟩

theorem WBd.step {w : World} {b : Nat} {l' : List UInt8} {r : Value} {v : Value} {w1 w2 : World} {e : Ending} (hb : w.heap.size ≤ b) (h2 : ∀ k, Blk v k → w.heap.size ≤ k) (h3 : Only Nob w w1) (h : WrPost b v l' r w1 e w2) : e = .returned r ∧ WBd w b l' w2 := by
  obtain ⟨v', he, h1, o, hf⟩ := h
  have z := h3.size
  refine ⟨he, v', h1, fun k hk => ?_, h3.trans o (fun i hi hx => ?_)⟩
  · rcases hf k hk with h | h
    · exact h2 k h
    · omega
  · rcases hx with rfl | hx
    · omega
    · have := h2 i hx; omega

theorem Only.below_end {w wr w2 : World} (hon : Only Nob w wr) (h : Below w.heap.size wr w2) : Only Nob w w2 := hon.trans (only_of_below h) (fun _ hi hx => absurd hi (Nat.not_lt.2 hx))

/-- Right pieces, not too many, with short texts. -/
def Good (p : List Pc) : Prop := p.length ≤ 60 ∧ ∀ x ∈ p, (runB x = true ∨ plainB x = true) ∧ x.t.length ≤ 1000

/-- The builder beside the bytes of a text. -/
def LitAt (w : World) (b : Nat) (l t : List UInt8) (g : Nat) (wr : World) : Prop :=
  ∃ v, Bd wr b v l ∧ (∀ k, Blk v k → w.heap.size ≤ k ∧ k ≠ g) ∧ Only Nob w wr ∧ g < wr.heap.size ∧ ∀ i (h : i < t.length), wr.cell? ⟨g, i, none⟩ = some (.int .u8 t[i].toNat)

theorem LitAt.step {w : World} {b : Nat} {l l' t : List UInt8} {g : Nat} {v r : Value} {w1 w2 : World} {e : Ending} (hb : w.heap.size ≤ b) (hbg : b ≠ g) (h1 : Bd w1 b v l) (h2 : ∀ k, Blk v k → w.heap.size ≤ k ∧ k ≠ g) (h3 : Only Nob w w1) (h4 : g < w1.heap.size)
    (h5 : ∀ i (h : i < t.length), w1.cell? ⟨g, i, none⟩ = some (.int .u8 t[i].toNat)) (h : WrPost b v l' r w1 e w2) : e = .returned r ∧ LitAt w b l' t g w2 := by
  obtain ⟨v', he, k1, o, hf⟩ := h
  have z := h3.size
  have hng : ¬ (g = b ∨ Blk v g) := by
    rintro (h | h)
    · exact hbg h.symm
    · exact (h2 g h).2 rfl
  refine ⟨he, v', k1, fun k hk => ?_, h3.trans o (fun i hi hx => ?_), Nat.lt_of_lt_of_le h4 o.size, fun i hi => (o.cell (a := ⟨g, i, none⟩) h4 hng).trans (h5 i hi)⟩
  · rcases hf k hk with h | h
    · exact h2 k h
    · exact ⟨by omega, by omega⟩
  · rcases hx with rfl | hx
    · omega
    · have := (h2 i hx).1; omega

theorem names_slice (j : Nat) (hj : j < 7) (w : World) : (Instr.slice 9 (.string ⟨#[100, 117, 108, 97, 115, 111, 46]⟩) (some (.int .i64 (j : Int))) (some (.int .i64 ((j : Int) + 1))) none).run Tryd.prog w = .ok (.string ⟨#[names.getD j 0]⟩) w := by
  have h := run_slice_string (P := Tryd.prog) (w := w) 9 ⟨#[100, 117, 108, 97, 115, 111, 46]⟩ .i64 .i64 (j : Int) ((j : Int) + 1) Tryd.underlying9 (by omega) (by omega) (by show ((j : Int) + 1) ≤ 7; omega)
  rw [h]
  have hc : j = 0 ∨ j = 1 ∨ j = 2 ∨ j = 3 ∨ j = 4 ∨ j = 5 ∨ j = 6 := by omega
  rcases hc with rfl | rfl | rfl | rfl | rfl | rfl | rfl <;> rfl

set_option maxRecDepth 100000 in
set_option maxHeartbeats 4000000 in
theorem written_any (v : Value) (p : List Pc) (w : World) (hp : Pcs w v p) (hg : Good p) (ht : Tab w) : Calls Tryd.prog 58 #[v] w (StrPost (writtenS p) w) := by
  obtain ⟨ao, cap, rfl⟩ := hp.form
  have hlen := hg.1
  have HB : WBd w w.heap.size [] (w.alloc (.cells #[.pointer none, .slice none 0 0] 123)) := ⟨_, Bd.new w, fun k hk => by simp [Blk, Value.ownBlock] at hk, Only.alloc _ _ _⟩
  go_enter Tryd.func58, Tryd.ntmps58
  go_wp2_with fail
  go_loopw [10] (fun i wr => ∃ k : Nat, k ≤ p.length ∧ i = .int .i64 k ∧ WBd w w.heap.size (writtenS (p.take k)) wr) (fun i _ => p.length - (intOf i).toNat)
  case atStart => exact ⟨0, Nat.zero_le _, rfl, HB⟩
  case round =>
    obtain ⟨k, hk, rfl, hw⟩ := hrel
    clear HB
    obtain ⟨b0, hb0⟩ : ∃ b0, b0 = w.heap.size := ⟨_, rfl⟩
    by_cases hlt : k < p.length
    · obtain ⟨hx1, hx2⟩ := hg.2 _ (List.getElem_mem hlt)
      have hws := Lib.hid (show writtenS (p.take (k + 1)) = writtenS (p.take k) ++ pieceS p[k] by rw [List.take_succ_eq_append_getElem hlt, writtenS_snoc])
      have hwl := writtenS_len 1000 (p.take k) (fun y hy => (hg.2 y (List.mem_of_mem_take hy)).2)
      have hwl2 : (p.take k).length ≤ 60 := by rw [List.length_take]; omega
      have hwl3 : (writtenS (p.take k)).length ≤ 200000 := Nat.le_trans hwl (by omega)
      obtain ⟨vb, hbd, hfar, hon⟩ := hw
      obtain ⟨b, off, rfl, hb, hat⟩ := (hp.nob hon).at hlt
      obtain ⟨e0, e1, e2, e3⟩ := hat
      generalize p[k] = x at hx1 hx2 hws e0 e1 e2 e3
      generalize writtenS (p.take k) = L at hws hwl3 hbd
      obtain ⟨c, l, m, t⟩ := x
      simp only at e0 e1 e2 e3
      have HT := Lib.hid (ht.other hon)
      have hz := hon.size
      clear hwl hwl2
      have kk : (k : Int) < (p.length : Int) := by omega
      by_cases hr : runB ⟨c, l, m, t⟩ = true
      · obtain ⟨q1, q2, q3, q4, q5, q6, q7⟩ := runB_iff.1 hr
        simp only at q1 q2 q3 q4 q5 q6 q7
        subst q7
        have C := Lib.hid (count_any ⟨c, l, m, []⟩ · hr)
        obtain ⟨j, rfl⟩ : ∃ j : Nat, c = ((j : Nat) : Int) + 1 := ⟨(c - 1).toNat, by omega⟩
        have hj : j < 7 := by omega
        have oB : Only Nob wr (wr.alloc (.cells #[.int .i64 ((j : Int) + 1), .int .i64 l, .int .i64 m, .string ⟨#[]⟩] 31)) := Only.alloc _ _ _
        have HX := Lib.hid (show ∀ w', Only Nob (wr.alloc (.cells #[.int .i64 ((j : Int) + 1), .int .i64 l, .int .i64 m, .string ⟨#[]⟩] 31)) w' → PcAt w' wr.heap.size 0 ⟨(j : Int) + 1, l, m, []⟩ from fun w' o => PcAt.other (by unfold PcAt; simp) o (fun h => h))
        have c0 := HX.out _ (Only.drew Nob _)
        unfold PcAt at c0
        simp only [Nat.zero_add] at c0
        have HX2 := Lib.hid (fun w' o => HX.out w' o)
        have HT2 := Lib.hid (show ∀ w', Only Nob wr w' → Tab w' from fun w' o => HT.out.other o)
        clear hr
        have w1 : IntKind.i64.wrap (j : Int) = (j : Int) := IntWalk.i64_in _ (by omega)
        have sl := names_slice j hj
        obtain ⟨NB, hNB⟩ : ∃ NB : ByteArray, NB = ⟨#[names.getD j 0]⟩ := ⟨_, rfl⟩
        have n1 : NB.size = 1 := by rw [hNB]; rfl
        rw [← hNB] at sl
        obtain ⟨CB, hCB⟩ : ∃ CB : ByteArray, CB = ⟨(countS ⟨(j : Int) + 1, l, m, []⟩).toArray⟩ := ⟨_, rfl⟩
        have n2 : CB.size ≤ 9 := by rw [hCB]; exact length_countS _
        have hp1 : L ++ (⟨#[92]⟩ ++ NB ++ CB : ByteArray).data.toList = L ++ pieceS ⟨(j : Int) + 1, l, m, []⟩ := by
          rw [hNB, hCB]
          unfold pieceS
          rw [if_pos (by show (0 : Int) < (j : Int) + 1; omega)]
          simp [ByteArray.data_append]
        have HP := Lib.hid hp1
        clear hp1
        unfold StrPost pcV SV at C
        simp only [← hCB] at C
        have s1 : ∀ w, (Op.stringOp .add ⟨#[92]⟩ NB).run Tryd.prog w = .ok (.string (⟨#[92]⟩ ++ NB)) w := fun w => run_string_add_sum w _ _ (by simp only [sz1]; omega)
        have s2 : ∀ w, (Op.stringOp .add (⟨#[92]⟩ ++ NB) CB).run Tryd.prog w = .ok (.string (⟨#[92]⟩ ++ NB ++ CB)) w := fun w => run_string_add_sum w _ _ (by simp only [ByteArray.size_append', sz1]; omega)
        have hsz : (⟨#[92]⟩ ++ NB ++ CB : ByteArray).size ≤ 100 := by simp only [ByteArray.size_append', sz1]; omega
        have HS := Lib.hid hsz
        have hL4 : L.length + (⟨#[92]⟩ ++ NB ++ CB : ByteArray).size ≤ 140737488355328 := by omega
        have HL := Lib.hid hL4
        have HB2 := Lib.hid (show ∀ w', Only Nob wr w' → Bd w' w.heap.size vb L from fun w' o => hbd.other o (fun h => h) (fun _ _ h => h))
        have HX3 := Lib.hid (show ∀ w2 w3 e l' r, Only Nob (wr.alloc (.cells #[.int .i64 ((j : Int) + 1), .int .i64 l, .int .i64 m, .string ⟨#[]⟩] 31)) w2 → WrPost w.heap.size vb l' r w2 e w3 → PcAt w3 wr.heap.size 0 ⟨(j : Int) + 1, l, m, []⟩ from fun w2 w3 e l' r o2 h => by
          obtain ⟨_, _, _, o3, _⟩ := h
          refine (HX.out _ o2).other o3 (fun hx => ?_)
          rcases hx with hx | hx
          · have := hbd.lt; omega
          · have := (hbd.blk hx).1; omega)
        clear hNB hCB hsz hL4
        go_wp2_with fail
        go_region_held3 (fun w' => w'.cell? ⟨wr.heap.size, 0, none⟩ = some (.int .i64 ((j : Int) + 1)) ∧ w'.cell? ⟨wr.heap.size, 1, none⟩ = some (.int .i64 l) ∧ w'.cell? ⟨wr.heap.size, 2, none⟩ = some (.int .i64 m) ∧ w'.cell? ⟨wr.heap.size, 3, none⟩ = some (.string ⟨#[]⟩))
          (first | exact c4 | exact c3 | exact c0 | fail)
          (first
            | (go_at_call 101; (with_reducible refine (C.out _ (HT2.out _ (Only.nob oB (Only.drew Nob _)))).mono ?_); rintro e w2 ⟨rfl, o2⟩; have c3 := HX2.out _ (Only.nob (Only.drew Nob _) o2))
            | (go_at_call 100; (with_reducible refine (write_string _ _ _ _ _ (HB2.out _ (Only.nob (Only.nob oB (Only.drew Nob _)) o2)) HL.out).mono ?_); intro e w3 h3; have c4 := HX3.out _ _ _ _ _ (Only.nob (Only.drew Nob _) o2) h3; have h4 := Lib.hid h3; obtain ⟨v3, rfl, -⟩ := h3)
            | fail)
        have H4 := WBd.step (w := w) (Nat.le_refl _) hfar (Only.nob (Only.nob (Only.nob hon oB) (Only.drew Nob _)) o2) h4.out
        rw [HP.out, ← hws.out] at H4
        have H5 := Lib.hid H4.2
        clear H4 h4 c4 c3 c0
        go_wp2
        go_roundw
        case rel => exact ⟨k + 1, by omega, by go_num, H5.out⟩
        case measure => simp [intOf]; omega
      · obtain ⟨q1, q2, q3, q4, q5⟩ := plainB_iff.1 (hx1.resolve_left hr)
        simp only at q1 q2 q3 q4 q5
        subst q1 q2 q3
        clear hr hx1
        have hcv := run_bytes (wr.alloc (.cells #[.int .i64 0, .int .i64 0, .int .i64 0, .string ⟨t.toArray⟩] 31)) ⟨t.toArray⟩
        have oB : Only Nob wr (Lib.bytesWorld (wr.alloc (.cells #[.int .i64 0, .int .i64 0, .int .i64 0, .string ⟨t.toArray⟩] 31)) 5 ⟨t.toArray⟩) := (Only.alloc _ _ _).nob (bytesWorld_only _ _)
        have hts : (⟨t.toArray⟩ : ByteArray).size = t.length := rfl
        have hgz : (Lib.bytesWorld (wr.alloc (.cells #[.int .i64 0, .int .i64 0, .int .i64 0, .string ⟨t.toArray⟩] 31)) 5 ⟨t.toArray⟩).heap.size = wr.heap.size + 1 + 1 := by rw [Lib.bytesWorld_size]; simp
        have HL : LitAt w w.heap.size L t (wr.heap.size + 1) (Lib.bytesWorld (wr.alloc (.cells #[.int .i64 0, .int .i64 0, .int .i64 0, .string ⟨t.toArray⟩] 31)) 5 ⟨t.toArray⟩) := by
          refine ⟨vb, hbd.other oB (fun h => h) (fun _ _ h => h), fun k hk => ⟨hfar k hk, ?_⟩, hon.nob oB, by omega, fun i hi => ?_⟩
          · have := (hbd.blk hk).1; omega
          · have h := Lib.bytesWorld_cell (wr.alloc (.cells #[.int .i64 0, .int .i64 0, .int .i64 0, .string ⟨t.toArray⟩] 31)) 5 ⟨t.toArray⟩ i hi
            rw [World.size_alloc] at h
            rw [h, getD_lt _ (show i < (⟨t.toArray⟩ : ByteArray).data.toList.length from hi)]
        have HG := Lib.hid (show w.heap.size ≠ wr.heap.size + 1 by omega)
        have HL := Lib.hid HL
        generalize Lib.bytesWorld (wr.alloc (.cells #[.int .i64 0, .int .i64 0, .int .i64 0, .string ⟨t.toArray⟩] 31)) 5 ⟨t.toArray⟩ = w1 at hcv HL hgz
        generalize grownCap (wr.alloc (.cells #[.int .i64 0, .int .i64 0, .int .i64 0, .string ⟨t.toArray⟩] 31)) (⟨t.toArray⟩ : ByteArray).size 0 5 = gc at hcv
        rw [World.size_alloc, hts] at hcv
        clear oB hts hgz hbd hfar hon
        generalize wr.heap.size + 1 = g at *
        go_wp2_with fail
        go_loopw [32] (fun i wi => ∃ j : Nat, j ≤ t.length ∧ i = .int .i64 j ∧ LitAt w w.heap.size (L ++ litS (t.take j)) t g wi) (fun i _ => t.length - (intOf i).toNat)
        case atStart => exact ⟨0, Nat.zero_le _, rfl, by have h := HL.out; simpa [litS] using h⟩
        case round =>
          obtain ⟨j, hj, rfl, hla⟩ := hrel
          clear HL hcv
          by_cases hjt : j < t.length
          · obtain ⟨v, h1, h2, h3, h4, h5⟩ := hla
            have hcell := h5 j hjt
            have hls := Lib.hid (show litS (t.take (j + 1)) = litS (t.take j) ++ (if special t[j] then [92, t[j]] else [t[j]]) by rw [List.take_succ_eq_append_getElem hjt, litS_snoc])
            have hll := length_litS (t.take j)
            have hlt3 : (t.take j).length ≤ 1000 := by rw [List.length_take]; omega
            have hl4 : (L ++ litS (t.take j)).length ≤ 300000 := by rw [List.length_append]; omega
            generalize t[j] = c at hcell hls
            have jj : (j : Int) < (t.length : Int) := by omega
            have HS := Lib.hid (fun l' r w2 e => LitAt.step (w := w) (b := w.heap.size) (l' := l') (r := r) (w2 := w2) (e := e) (Nat.le_refl _) HG.out h1 h2 h3 h4 h5)
            have H1 := Lib.hid h1
            clear h1 h2 h3 h4 h5 hll hlt3
            cases hsp : special c
            · have I := Lib.hid (idx_special c)
              rw [idxS_no hsp] at I
              have HE : Hid (L ++ litS (t.take (j + 1)) = L ++ litS (t.take j) ++ [c]) := by
                rw [hls.out, hsp]
                simp [Hid]
              clear hsp hls
              go_wp2_with fail
              refine (I.out _).mono ?_
              rintro e w' ⟨rfl, rfl⟩
              go_wp2_with fail
              refine (write_byte _ _ _ c _ H1.out (by omega)).mono ?_
              intro e w3 h3
              have h4 := HS.out _ _ _ _ h3
              obtain ⟨rfl, h4⟩ := h4
              rw [← HE.out] at h4
              have H4 := Lib.hid h4
              clear h3 h4
              go_wp2
              go_roundw
              case rel => exact ⟨j + 1, by omega, by go_num, H4.out⟩
              case measure => simp [intOf]; omega
            · have I := Lib.hid (idx_special c)
              have hi0 := idxS_yes hsp
              have HE : Hid (L ++ litS (t.take (j + 1)) = L ++ litS (t.take j) ++ [92] ++ [c]) := by
                rw [hls.out, hsp]
                simp [Hid]
              clear hsp hls
              generalize idxS c = ix at I hi0
              go_wp2_with fail
              refine (I.out _).mono ?_
              rintro e w' ⟨rfl, rfl⟩
              go_wp2_with fail
              refine (write_byte _ _ _ 92 _ H1.out (by omega)).mono ?_
              intro e w3 h3
              have h4 := HS.out _ _ _ _ h3
              obtain ⟨rfl, v5, k1, k2, k3, k4, k5⟩ := h4
              have HS2 := Lib.hid (fun l' r w2 e => LitAt.step (w := w) (b := w.heap.size) (l' := l') (r := r) (w2 := w2) (e := e) (Nat.le_refl _) HG.out k1 k2 k3 k4 k5)
              have K1 := Lib.hid k1
              clear h3 k1 k2 k3 k4 k5 HS H1
              go_wp2_with fail
              refine (write_byte _ _ _ c _ K1.out (by simp only [List.length_append, List.length_cons, List.length_nil] at hl4 ⊢; omega)).mono ?_
              intro e w4 h3
              have h4 := HS2.out _ _ _ _ h3
              obtain ⟨rfl, h4⟩ := h4
              rw [← HE.out] at h4
              have H4 := Lib.hid h4
              clear h3 h4
              go_wp2
              go_roundw
              case rel => exact ⟨j + 1, by omega, by go_num, H4.out⟩
              case measure => simp [intOf]; omega
          · obtain rfl : j = t.length := by omega
            obtain ⟨v, h1, h2, h3, h4, h5⟩ := hla
            have HW : Hid (WBd w w.heap.size (writtenS (p.take (k + 1))) wr) := by
              rw [hws.out]
              have e : pieceS ⟨0, 0, 0, t⟩ = litS t := by unfold pieceS; rw [if_neg (by show ¬ (0 : Int) < 0; omega)]
              rw [e]
              rw [List.take_of_length_le (Nat.le_refl _)] at h1
              exact ⟨v, h1, fun k hk => (h2 k hk).1, h3⟩
            clear h1 h2 h3 h4 h5
            go_wp2
            go_roundw
            case rel => exact ⟨k + 1, by omega, by go_num, HW.out⟩
            case measure => simp [intOf]; omega
    · obtain rfl : k = p.length := by omega
      obtain ⟨vb, hbd, hfar, hon⟩ := hw
      rw [List.take_of_length_le (Nat.le_refl _)] at hbd
      go_wp2_with fail
      refine (bd_string w.heap.size w.heap.size vb _ _ hbd (Nat.le_refl _) hfar).mono ?_
      rintro e w2 ⟨rfl, hbl⟩
      go_wp2
      go_ret
      exact ⟨rfl, hon.below_end hbl⟩

end Go.Proofs.YtddjbfmohibgbaaDoor
