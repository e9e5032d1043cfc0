/- Chapter 05: the reference: Parse of a string without braces. -/
import Derived.Test.YtddjbfmohibgbaaDoorPiecA
import Derived.Test.YtddjbfmohibgbaaDoorRWrA

/- The reference's reader: its class of a letter, its count (where no brace stands). -/
namespace Go.Proofs.YtddjbfmohibgbaaDoor
open Go.RowKit

theorem idxF_drop (c : UInt8) (k : Nat) (h : k < 7) : idxF (names.drop k) c k = if names[k]'h = c then (k : Int) else idxF (names.drop (k + 1)) c ((k + 1 : Nat) : Int) := by
  have e : names.drop k = names[k]'h :: names.drop (k + 1) := List.drop_eq_getElem_cons h
  rw [e, idxF]
  rfl

set_option maxHeartbeats 1000000 in
theorem rclassn_any (c : UInt8) (w : World) : Calls Tryd.prog 116 #[.int .u8 c.toNat] w fun e w' => e = .returned (.int .i64 (nameN c)) ∧ w = w' := by
  have ix := fun k h w => index_at names k h w
  have IXh := Lib.hid ix
  clear ix
  go_enter Tryd.func116, Tryd.ntmps116
  go_wp2_with fail
  go_loopw [3] (fun i wr => ∃ k : Nat, k ≤ 7 ∧ i = .int .i64 (k : Int) ∧ idxF (names.drop k) c k = idxF names c 0 ∧ w = wr) (fun i _ => 7 - (intOf i).toNat)
  case atStart => exact ⟨0, by omega, rfl, rfl, rfl⟩
  case round =>
    obtain ⟨k, hk, rfl, hx, rfl⟩ := hrel
    by_cases hlt : k < 7
    · have kk : (k : Int) < 7 := by omega
      have ix : ∀ w, (Instr.index 9 (.string ⟨#[100, 117, 108, 97, 115, 111, 46]⟩) (.int .i64 (k : Int))).run Tryd.prog w = .ok (.int .u8 (names[k]'hlt).toNat) w := IXh.out k hlt
      rw [idxF_drop c k hlt] at hx
      have HX := Lib.hid hx
      have hn8 := (names[k]'hlt).toNat_lt
      have hc8 := c.toNat_lt
      have hEq : (names[k]'hlt = c) ↔ (names[k]'hlt).toNat = c.toNat := UInt8.toNat_inj.symm
      have HQ := Lib.hid hEq
      clear hx hEq
      generalize names[k]'hlt = y at *
      generalize hyn : y.toNat = yN at *
      generalize hcn : c.toNat = cN at *
      clear hyn hcn IXh
      by_cases h : y = c
      · have h' := HQ.out.1 h
        rw [if_pos h] at HX
        subst h'
        clear h HQ
        go_wp2_with fail
        go_ret
        refine ⟨ret_int ?_, rfl⟩
        unfold nameN
        rw [← HX.out]
      · have h' : ¬ yN = cN := fun e => h (HQ.out.2 e)
        rw [if_neg h] at HX
        have h'' : ¬ (yN : Int) = (cN : Int) := by omega
        clear h HQ h'
        go_wp2_with fail
        go_roundw
        case rel => exact ⟨k + 1, by omega, rfl, HX.out, trivial⟩
        case measure => simp [intOf]; omega
    · obtain rfl : k = 7 := by omega
      go_wp2
      go_ret
      refine ⟨ret_int ?_, rfl⟩
      unfold nameN
      rw [← hx]
      rfl

/-- The reference's reader in the block g, no error seen. -/
def RRd (w : World) (g : Nat) (s : List UInt8) (k : Nat) : Prop := w.heap[g]? = some (.cells #[.string ⟨s.toArray⟩, .int .i64 (k : Int), .int .i64 0, .int .i64 0] 142 (0, 0))
theorem RRd.cells {w : World} {g : Nat} {s : List UInt8} {k : Nat} (h : RRd w g s k) : w.cell? ⟨g, 0, none⟩ = some (.string ⟨s.toArray⟩) ∧ w.cell? ⟨g, 1, none⟩ = some (.int .i64 (k : Int)) ∧ w.cell? ⟨g, 3, none⟩ = some (.int .i64 0) ∧ w.frozen? ⟨g, 1, none⟩ = false := by
  unfold RRd at h
  simp [World.cell?, World.frozen?, h]
theorem RRd.lt {w : World} {g : Nat} {s : List UInt8} {k : Nat} (h : RRd w g s k) : g < w.heap.size := lt_of_heap h
theorem RRd.other {S : Nat → Prop} {w w' : World} {g : Nat} {s : List UInt8} {k : Nat} (h : RRd w g s k) (ho : Only S w w') (hn : ¬ S g) : RRd w' g s k := (ho.block g h.lt hn).trans h
theorem RRd.set {w : World} {g : Nat} {s : List UInt8} {k : Nat} (h : RRd w g s k) (j : Nat) : RRd (w.setCell ⟨g, 1, none⟩ (.int .i64 (j : Int))) g s j := heap_setCell_same w g 1 _ 142 _ h

/-- A count where no brace stands. -/
theorem rcount_any (g : Nat) (s : List UInt8) (k l m k2 : Nat) (w : World) (hs : s.length ≤ 1000) (hr : RRd w g s k) (hb : (peekL s k).toNat ≠ 123) (hc : cntL s k = .ok ((l, m), k2)) :
    Calls Tryd.prog 118 #[.pointer (some ⟨g, 0, none⟩)] w fun e w' => e = .returned (.tuple #[.int .i64 (l : Int), .int .i64 (m : Int)]) ∧ RRd w' g s k2 ∧ Only (Is g) w w' := by
  obtain ⟨c0, c1, -, cf⟩ := hr.cells
  have HR := Lib.hid hr
  have HS := Lib.hid (hr.set (k + 1))
  clear hr
  have HC := Lib.hid hc
  clear hc
  by_cases hlt : k < s.length
  · have kk : ¬ (k : Int) ≥ (s.length : Int) := by omega
    have ix : ∀ w, (Instr.index 9 (.string ⟨s.toArray⟩) (.int .i64 (k : Int))).run Tryd.prog w = .ok (.int .u8 (peekL s k).toNat) w := by
      rw [byte_at hlt]; exact fun w => index_at s k hlt w
    unfold cntL at HC
    have hn8 := (peekL s k).toNat_lt
    generalize (peekL s k).toNat = cN at *
    go_enter Tryd.func118, Tryd.ntmps118
    go_wp2_with fail
    go_region_held3 (fun w' => w'.cell? ⟨g, 0, none⟩ = some (.string ⟨s.toArray⟩) ∧ w'.cell? ⟨g, 1, none⟩ = some (.int .i64 (k : Int))) (exact ⟨c0, c1⟩) (fail)
    go_wp2_with fail
    go_region_held3 (fun w' => w'.cell? ⟨g, 0, none⟩ = some (.string ⟨s.toArray⟩) ∧ w'.cell? ⟨g, 1, none⟩ = some (.int .i64 (k : Int))) (exact ⟨c0, c1⟩) (fail)
    have hd2 : Only Nob w w.drew.drew := (Only.drew _ _).nob (Only.drew _ _)
    have HD := Lib.hid hd2
    clear hd2 kk ix
    by_cases h1 : cN = 43
    · subst h1
      rw [if_pos rfl] at HC
      obtain ⟨⟨rfl, rfl⟩, rfl⟩ := (by simpa using HC.out : (1 = l ∧ 200 = m) ∧ k + 1 = k2)
      go_wp2
      go_ret2
      refine ⟨rfl, ?_, ?_⟩
      · exact HS.out.other ((Only.drew Nob _).nob (Only.drew _ _)) (fun h => h)
      · exact ((Only.refl (Is g) w).is_set 1 _).is_nob ((Only.drew _ _).nob (Only.drew _ _))
    have h1' : ¬ (cN : Int) = 43 := by omega
    rw [if_neg h1] at HC
    by_cases h2 : cN = 42
    · subst h2
      rw [if_pos rfl] at HC
      obtain ⟨⟨rfl, rfl⟩, rfl⟩ := (by simpa using HC.out : (0 = l ∧ 200 = m) ∧ k + 1 = k2)
      go_wp2
      go_ret2
      refine ⟨rfl, ?_, ?_⟩
      · exact HS.out.other ((Only.drew Nob _).nob (Only.drew _ _)) (fun h => h)
      · exact ((Only.refl (Is g) w).is_set 1 _).is_nob ((Only.drew _ _).nob (Only.drew _ _))
    have h2' : ¬ (cN : Int) = 42 := by omega
    rw [if_neg h2, if_neg hb] at HC
    have hb' : ¬ (cN : Int) = 123 := by omega
    obtain ⟨⟨rfl, rfl⟩, rfl⟩ := (by simpa using HC.out : (1 = l ∧ 1 = m) ∧ k = k2)
    go_wp2
    go_ret2
    exact ⟨rfl, HR.out.other HD.out (fun h => h), HD.out.mono (fun _ _ h => h.elim)⟩
  · have kk : (k : Int) ≥ (s.length : Int) := by omega
    rw [cnt_one (by rw [peekL_end (by omega)]; decide) (by rw [peekL_end (by omega)]; decide) hb] at HC
    obtain ⟨⟨rfl, rfl⟩, rfl⟩ := (by simpa using HC.out : (1 = l ∧ 1 = m) ∧ k = k2)
    go_enter Tryd.func118, Tryd.ntmps118
    go_wp2_with fail
    go_region_held3 (fun w' => w'.cell? ⟨g, 0, none⟩ = some (.string ⟨s.toArray⟩) ∧ w'.cell? ⟨g, 1, none⟩ = some (.int .i64 (k : Int))) (exact ⟨c0, c1⟩) (fail)
    go_wp2
    go_ret2
    exact ⟨rfl, HR.out.other (Only.drew Nob _) (fun h => h), Only.drew _ _⟩

end Go.Proofs.YtddjbfmohibgbaaDoor

/- The reference's Parse: of a string that reads, with no brace. -/
namespace Go.Proofs.YtddjbfmohibgbaaDoor
open Go.RowKit

/-- What the loop knows. -/
def RpRel (w : World) (s : List UInt8) (P : List Pc) (g : Nat) (out : Value) (wr : World) : Prop :=
  ∃ (k f : Nat) (p : List Pc), k ≤ s.length ∧ p.length ≤ k ∧ (∀ x ∈ p, x.t.length ≤ k) ∧ s.length - k ≤ f ∧ OwnP wr out p ∧ (∀ i, Blk out i → w.heap.size ≤ i) ∧ piecesF s f k p = .ok P ∧ RRd wr g s k ∧ Only (Run g w.heap.size) w wr

theorem RpRel.drew {w : World} {s : List UInt8} {P : List Pc} {g : Nat} {out : Value} {wr : World} (h : RpRel w s P g out wr) : RpRel w s P g out wr.drew := by
  obtain ⟨k, f, p, h1, h2, h3, h4, h5, h6, h7, h8, h9⟩ := h
  exact ⟨k, f, p, h1, h2, h3, h4, h5.other (Only.drew Nob _) (fun _ _ h => h), h6, h7, h8.other (Only.drew Nob _) (fun h => h), h9.also (Only.drew Nob _)⟩

set_option maxRecDepth 100000 in
set_option maxHeartbeats 4000000 in
theorem rparse_any (s : List UInt8) (P : List Pc) (v0 : World) (hs : s.length ≤ 60) (hnb : ∀ k, (peekL s k).toNat ≠ 123) (hP : piecesF s s.length 0 [] = .ok P) :
    Calls Tryd.prog 75 #[.string ⟨s.toArray⟩] v0 fun e w' => ∃ v, e = .returned (.tuple #[v, .int .i64 0, .int .i64 0]) ∧ OwnP w' v P ∧ Only Nob v0 w' := by
  have hs' : ¬ (s.length : Int) > 60 := by omega
  have hRd : RRd (v0.alloc (.cells #[.string ⟨s.toArray⟩, .int .i64 0, .int .i64 0, .int .i64 0] 142)) v0.heap.size s 0 := heap_alloc_new _ _
  have hO : Only Nob v0 (v0.alloc (.cells #[.string ⟨s.toArray⟩, .int .i64 0, .int .i64 0, .int .i64 0] 142)) := Only.alloc _ _ _
  have hZ : (v0.alloc (.cells #[.string ⟨s.toArray⟩, .int .i64 0, .int .i64 0, .int .i64 0] 142)).heap.size = v0.heap.size + 1 := by simp
  have H0 := Lib.hid (And.intro hRd (And.intro hO hZ))
  clear hRd hO hZ
  go_enter Tryd.func75, Tryd.ntmps75
  go_wp2_with fail
  generalize v0.alloc (.cells #[.string ⟨s.toArray⟩, .int .i64 0, .int .i64 0, .int .i64 0] 142) = w at *
  generalize hgz : v0.heap.size = g at *
  have HG := Lib.hid hgz
  clear hgz
  have hgw : g < w.heap.size := by have := H0.out.2.2; omega
  have HB : Hid (RpRel w s P g (.slice none 0 0) w) := ⟨0, s.length, [], Nat.zero_le _, Nat.zero_le _, (fun x hx => by cases hx), Nat.sub_le _ _, OwnP.nil w, fun i hi => by simp [Blk, Value.ownBlock] at hi, hP, H0.out.1, Only.refl _ _⟩
  go_loopw [6] (fun out wr => RpRel w s P g out wr) (fun _ wr => s.length - (intOf ((wr.cell? ⟨g, 1, none⟩).getD undef)).toNat)
  case atStart => exact HB.out
  case round =>
    obtain ⟨k, f, p, hk, hpk, htx, hf, hown, hnew, hn, hrd, hon⟩ := hrel
    clear HB
    obtain ⟨ao, cap, rfl⟩ := hown.form
    obtain ⟨c0, c1, c3, cf⟩ := hrd.cells
    have HOwn := Lib.hid hown
    have HT := Lib.hid htx
    clear htx
    have HNew := Lib.hid hnew
    have HO := Lib.hid hon
    have HR := Lib.hid hrd
    clear hown hnew hon hrd
    by_cases hlt : k < s.length
    · have kk : (k : Int) < (s.length : Int) := by omega
      obtain ⟨f, rfl⟩ : ∃ f', f = f' + 1 := ⟨f - 1, by omega⟩
      rw [piecesF, if_pos hlt] at hn
      have HN := Lib.hid hn
      clear hn
      have HO1 := HO
      have HR1 := HR
      have HOwn1 := HOwn
      unfold stepP at HN
      by_cases h92 : (peekL s k).toNat = 92
      · rw [if_pos h92] at HN
        obtain ⟨c0, c1, c3, cf⟩ := HR1.out.cells
        have HS := Lib.hid (HR1.out.set (k + 1))
        have ix := fun w => index_at s k hlt w
        rw [← byte_at hlt, h92] at ix
        have hlt1 : k + 1 < s.length := by
          refine Decidable.byContradiction fun hc => ?_
          have e : peekL s (k + 1) = 0 := peekL_end (by omega)
          have h := HN.out
          rw [e] at h
          simp [show ¬ 0 < nameN 0 by decide, show special 0 = false by decide] at h
        have ix2 : ∀ w, (Instr.index 9 (.string ⟨s.toArray⟩) (.int .i64 ((k : Int) + 1))).run Tryd.prog w = .ok (.int .u8 (peekL s (k + 1)).toNat) w := by rw [byte_at hlt1]; exact fun w => index_at s (k + 1) hlt1 w
        have RC := Lib.hid (rclassn_any (peekL s (k + 1)))
        have SP := Lib.hid (rspecial_any (peekL s (k + 1)))
        have hnr := nameN_rng (peekL s (k + 1))
        have HB := Lib.hid (fun l m k2 w hs hr hc => rcount_any g s (k + 1 + 1) l m k2 w hs hr (hnb (k + 1 + 1)) hc)
        by_cases hnm : 0 < nameN (peekL s (k + 1))
        · rw [if_pos hnm] at HN
          have hpk2 : p.length ≤ k + 1 := by omega
          have hfu : ∀ k2, k + 1 + 1 ≤ k2 → s.length - k2 ≤ f := fun k2 h => by omega
          have HT3 := Lib.hid (fun y hy => Nat.le_trans (HT.out y hy) (show k ≤ k + 1 by omega))
          have hkK : k < k + 1 := by omega
          have hkl : (k : Int) + 1 < (s.length : Int) := by omega
          have hke : ¬ (k : Int) + 1 = (s.length : Int) := by omega
          generalize (peekL s (k + 1)).toNat = cN at *
          generalize nameN (peekL s (k + 1)) = nN at *
          generalize special (peekL s (k + 1)) = sB at *
          have HW : Hid (RRd ((wr.setCell ⟨g, 1, none⟩ (.int .i64 ((k : Int) + 1))).setCell ⟨g, 1, none⟩ (.int .i64 ((k : Int) + 1 + 1))) g s (k + 1 + 1) ∧ Only (Run g w.heap.size) w ((wr.setCell ⟨g, 1, none⟩ (.int .i64 ((k : Int) + 1))).setCell ⟨g, 1, none⟩ (.int .i64 ((k : Int) + 1 + 1))) ∧ OwnP ((wr.setCell ⟨g, 1, none⟩ (.int .i64 ((k : Int) + 1))).setCell ⟨g, 1, none⟩ (.int .i64 ((k : Int) + 1 + 1))) (.slice ao p.length cap) p) :=
            ⟨(HR1.out.set (k + 1)).set (k + 1 + 1), (HO1.out.put g 1 _ (.inl rfl)).put g 1 _ (.inl rfl), (HOwn1.out.other (Only.setCell (S := Is g) wr ⟨g, 1, none⟩ _ rfl) (fun i hi h => by have := HNew.out i hi; have h' : i = g := h; omega)).other (Only.setCell (S := Is g) _ ⟨g, 1, none⟩ _ rfl) (fun i hi h => by have := HNew.out i hi; have h' : i = g := h; omega)⟩
          have HWs : Hid (w.heap.size ≤ ((wr.setCell ⟨g, 1, none⟩ (.int .i64 ((k : Int) + 1))).setCell ⟨g, 1, none⟩ (.int .i64 ((k : Int) + 1 + 1))).heap.size) := HW.out.2.1.size
          have HN2 : Hid ((match (match cntL s (k + 1 + 1) with | .error e => .error e | .ok ((l, m), k2) => .ok (k2, p ++ [⟨nN, l, m, []⟩]) : PR (Nat × List Pc)) with | .error e => (.error e : PR (List Pc)) | .ok (k2, p2) => piecesF s f k2 p2) = .ok P) := HN
          go_wp2_with (first | (go_at_call 116; (with_reducible refine (RC.out _).mono ?_); rintro e w' ⟨rfl, rfl⟩) | (go_at_call 108; (with_reducible refine (SP.out _).mono ?_); rintro e w' ⟨rfl, rfl⟩) | fail)
          clear ix ix2 c0 c1 c3 cf HO1 HR1 HOwn1 HO HOwn HS HN
          generalize (wr.setCell ⟨g, 1, none⟩ (.int .i64 ((k : Int) + 1))).setCell ⟨g, 1, none⟩ (.int .i64 ((k : Int) + 1 + 1)) = w5 at *
          cases hN : cntL s (k + 1 + 1) with
          | error ae =>
            rw [hN] at HN2
            exact absurd HN2.out (by simp)
          | ok nk =>
            obtain ⟨⟨l, m⟩, k2⟩ := nk
            refine (HB.out l m k2 w5 (by omega) HW.out.1 hN).mono ?_
            rintro e w6 ⟨rfl, r6, o6⟩
            rw [hN] at HN2
            simp only at HN2
            obtain ⟨hk2, hk3⟩ := cnt_ok (show k + 1 + 1 ≤ s.length from hlt1) hN
            have z0 := PcRow.new w6 ⟨nN, l, m, []⟩
            have oA : Only Nob w6 (w6.alloc (.cells #[.int .i64 nN, .int .i64 l, .int .i64 m, .string ⟨#[]⟩] 31)) := Only.alloc _ _ _
            have hown7 := (HW.out.2.2.other o6 (fun i hi h => by have := HNew.out i hi; have h' : i = g := h; omega)).other oA (fun _ _ h => h)
            have HA := Lib.hid ((HW.out.2.1.trans o6 (fun i _ h => .inl h)).also oA)
            have HR7 := Lib.hid (r6.other oA (fun h => h))
            have hws : Hid (w.heap.size ≤ w6.heap.size) := Nat.le_trans HWs.out o6.size
            clear oA o6 r6 hN HW HWs HB
            go_wp2_with (first | (at_builtin; refine wpList_append_pc rfl _ _ rfl _ _ rfl hown7 _ _ rfl z0 (Nat.le_trans hpk2 (by omega)) ?_) | fail)
            intro v' w' ho' on' hb'
            have HZ := Lib.hid (show RpRel w s P g v' w' ∧ RRd w' g s k2 from by
              have r7 := HR7.out.other on' (fun h => by have := HNew.out _ h; omega)
              refine ⟨⟨k2, f, _, hk3, ?_, ?_, hfu _ hk2, ho', fun i hi => ?_, HN2.out, r7, HA.out.trans on' (fun i _ hi => .inr (HNew.out i hi))⟩, r7⟩
              · simp; omega
              · intro y hy
                rcases List.mem_append.1 hy with hy | hy
                · exact Nat.le_trans (HT3.out y hy) (by omega)
                · simp only [List.mem_singleton] at hy
                  subst hy
                  simp
              · rcases hb' i hi with h | h
                · exact HNew.out i h
                · have := hws.out; omega)
            clear ho' on' hb'
            go_wp2_with fail
            go_roundw
            case rel => exact HZ.out.1
            case measure => rw [HZ.out.2.cells.2.1, HR.out.cells.2.1]; simp [intOf]; omega
        · rw [if_neg hnm] at HN
          have hn0 : nameN (peekL s (k + 1)) = 0 := by omega
          have hsp : special (peekL s (k + 1)) = true := by
            refine Decidable.byContradiction fun h => ?_
            have h2 := HN.out
            rw [if_neg h] at h2
            simp at h2
          rw [if_pos hsp] at HN
          simp only at HN
          rw [hn0] at RC
          rw [hsp] at SP
          have hkl : (k : Int) + 1 < (s.length : Int) := by omega
          have hke : ¬ (k : Int) + 1 = (s.length : Int) := by omega
          have ix4 : ∀ w, (Instr.index 9 (.string ⟨s.toArray⟩) (.int .i64 ((k + 1 : Nat) : Int))).run Tryd.prog w = .ok (.int .u8 (peekL s (k + 1)).toNat) w := ix2
          clear hnm hn0 hnr hsp HB
          generalize peekL s (k + 1) = c at *
          have HT2 := Lib.hid (text_addC p c k HT.out)
          have HT3 := Lib.hid (fun y hy => Nat.le_trans (HT.out y hy) (show k ≤ k + 1 by omega))
          have HT4 : Hid (∀ y ∈ addC p c, y.t.length ≤ k + 1 + 1) := (fun y hy => Nat.le_trans (HT2.out y hy) (by omega))
          have HN2 : Hid (piecesF s f (k + 1 + 1) (addC p c) = .ok P) := HN
          have hfu : s.length - (k + 1 + 1) ≤ f := by omega
          have hpk2 : p.length ≤ k + 1 := by omega
          have hkK : k < k + 1 := by omega
          have HR3 : Hid (RRd (wr.setCell ⟨g, 1, none⟩ (.int .i64 ((k : Int) + 1))) g s (k + 1)) := HS
          have HO3 : Hid (Only (Run g w.heap.size) w (wr.setCell ⟨g, 1, none⟩ (.int .i64 ((k : Int) + 1)))) := HO1.out.put g 1 _ (.inl rfl)
          have HOwn3 : Hid (OwnP (wr.setCell ⟨g, 1, none⟩ (.int .i64 ((k : Int) + 1))) (.slice ao p.length cap) p) := HOwn1.out.other (Only.setCell (S := Is g) wr ⟨g, 1, none⟩ _ rfl) (fun i hi h => by have := HNew.out i hi; have h' : i = g := h; omega)
          have IX4 := Lib.hid ix4
          clear HN HT2 ix4 hpk HT
          go_wp2_with fail
          (with_reducible refine (RC.out _).mono ?_)
          rintro e w' ⟨rfl, rfl⟩
          go_wp2_with fail
          (with_reducible refine (SP.out _).mono ?_)
          rintro e w' ⟨rfl, rfl⟩
          go_wp2_with fail
          clear c0 c1 c3 cf HS HO1 HR1 HOwn1 HO HOwn ix ix2 hkl hke hf hlt kk
          generalize wr.setCell ⟨g, 1, none⟩ (.int .i64 ((k : Int) + 1)) = w3 at *
          generalize k + 1 = K at *
          obtain ⟨c0, c1, c3, cf⟩ := HR3.out.cells
          have ix := IX4.out
          clear IX4
          have hws := Lib.hid HO3.out.size
          have HW : Hid (RRd (w3.setCell ⟨g, 1, none⟩ (.int .i64 ((K : Int) + 1))) g s (K + 1) ∧ Only (Run g w.heap.size) w (w3.setCell ⟨g, 1, none⟩ (.int .i64 ((K : Int) + 1))) ∧ OwnP (w3.setCell ⟨g, 1, none⟩ (.int .i64 ((K : Int) + 1))) (.slice ao p.length cap) p) :=
            ⟨HR3.out.set (K + 1), HO3.out.put g 1 _ (.inl rfl), HOwn3.out.other (Only.setCell (S := Is g) w3 ⟨g, 1, none⟩ _ rfl) (fun i hi h => by have := HNew.out i hi; have h' : i = g := h; omega)⟩
          have HOwn4 := Lib.hid HOwn3.out
          clear HR3 HO3 HOwn3
          have hsz : (w3.setCell ⟨g, 1, none⟩ (.int .i64 ((K : Int) + 1))).heap.size = w3.heap.size := by simp
          rcases List.eq_nil_or_concat p with rfl | ⟨q, x, rfl⟩
          · rw [addC_nil] at HN2 HT4
            obtain ⟨w5, hw5⟩ : ∃ w5, w5 = w3.setCell ⟨g, 1, none⟩ (.int .i64 ((K : Int) + 1)) := ⟨_, rfl⟩
            rw [← hw5] at hsz HW
            have z0 := PcRow.new (w5.alloc (.cells #[.int .u8 c.toNat] 5)) ⟨0, 0, 0, [c]⟩
            rw [show (w5.alloc (.cells #[.int .u8 c.toNat] 5)).heap.size = w3.heap.size + 1 by rw [← hsz]; simp] at z0
            have oA : Only Nob w5 ((w5.alloc (.cells #[.int .u8 c.toNat] 5)).alloc (.cells #[.int .i64 0, .int .i64 0, .int .i64 0, .string ⟨#[c]⟩] 31)) := (Only.alloc _ _ _).nob (Only.alloc _ _ _)
            have hown6 := HW.out.2.2.other oA (fun _ _ h => h)
            have b0 := (Boxed.new w5 5 (.int .u8 c.toNat)).cell
            rw [hsz] at b0
            have cv := conv_one c (w5.alloc (.cells #[.int .u8 c.toNat] 5)) w3.heap.size b0
            have HA := Lib.hid (HW.out.2.1.also oA)
            have HR6 := Lib.hid (HW.out.1.other oA (fun h => h))
            clear oA b0 hsz HW
            subst hw5
            go_wp2_with (first | (go_at_call 116; (with_reducible refine (RC.out _).mono ?_); rintro e w' ⟨rfl, rfl⟩) | (at_builtin; refine wpList_append_pc rfl _ _ rfl _ _ rfl hown6 _ _ rfl z0 (Nat.le_trans hpk2 (by omega)) ?_) | fail)
            intro v' w' ho' on' hb'
            have hk' : K + 1 ≤ s.length := hlt1
            have HZ := Lib.hid (show RpRel w s P g v' w' ∧ RRd w' g s (K + 1) from by
              have r7 := HR6.out.other on' (fun h => by have := HNew.out _ h; omega)
              refine ⟨⟨K + 1, f, _, hk', ?_, HT4.out, hfu, ho', fun i hi => ?_, HN2.out, r7, HA.out.trans on' (fun i _ hi => .inr (HNew.out i hi))⟩, r7⟩
              · have hpk3 := hpk2
                simp at hpk3 ⊢
                try omega
              · rcases hb' i hi with h | h
                · exact HNew.out i h
                · have := hws.out; omega)
            clear ho' on' hb'
            go_wp2_with fail
            go_roundw
            case rel => exact HZ.out.1
            case measure => rw [HZ.out.2.cells.2.1, HR.out.cells.2.1]; simp [intOf]; omega

          · rw [List.concat_eq_append] at *
            obtain ⟨gb, capq, hvq, -, hgb⟩ := own_form_pos HW.out.2.2 (by simp)
            obtain ⟨rfl, rfl⟩ := (by simpa using hvq : ao = some ⟨gb, 0, none⟩ ∧ cap = capq)
            obtain ⟨x0, x1, x2, x3⟩ := HOwn4.out.pcAt (i := q.length) (by simp)
            have hfz := HOwn4.out.frozen (q.length * 4 + 3)
            have hge : g ≠ gb := fun e => by have := HNew.out gb rfl; omega
            rw [List.getElem_concat_length rfl] at x0 x3
            clear x1 x2 hvq
            have hq60 : q.length < 60 := by simp at hpk2; omega
            have lq : (q ++ [x]).length = q.length + 1 := by simp
            have hi1 : IntKind.i64.wrap ((q.length : Int) + 1 - 1) = (q.length : Int) := by rw [IntWalk.i64_in _ (by omega)]; omega
            obtain ⟨w5, hw5⟩ : ∃ w5, w5 = w3.setCell ⟨g, 1, none⟩ (.int .i64 ((K : Int) + 1)) := ⟨_, rfl⟩
            rw [← hw5] at hsz HW
            by_cases hx0 : x.c = 0
            · rw [addC_lit _ _ _ hx0] at HN2 HT4
              have hown6 := HW.out.2.2
              rw [lq] at hown6
              have HW6 := Lib.hid hown6
              have b0 := (Boxed.new w5 5 (.int .u8 c.toNat)).cell
              rw [hsz] at b0
              have cv := conv_one c (w5.alloc (.cells #[.int .u8 c.toNat] 5)).drew w3.heap.size b0
              have htl : x.t.length ≤ K := HT3.out x (by simp)
              obtain ⟨X, hX⟩ : ∃ X : ByteArray, X = ⟨x.t.toArray⟩ := ⟨_, rfl⟩
              have hXs : X.size ≤ 60 := by rw [hX]; show x.t.length ≤ 60; omega
              have s1 : ∀ w, (Op.stringOp .add X ⟨#[c]⟩).run Tryd.prog w = .ok (.string (X ++ ⟨#[c]⟩)) w := fun w => run_string_add_sum w _ _ (by simp only [sz1]; omega)
              have y3 := (HW.out.2.2.pcAt (i := q.length) (by simp)).2.2.2
              rw [List.getElem_concat_length rfl, ← hX] at y3
              have yf := HW.out.2.2.frozen (q.length * 4 + 3)
              have HX := Lib.hid hX
              have hX' := hX.symm
              have HW5 := Lib.hid hw5
              clear hown6 b0 hX x3 hfz hw5
              have hownA := HW.out.2.2.other (Only.alloc Nob w5 (.cells #[.int .u8 c.toNat] 5)) (fun _ _ h => h)
              have y5 := (hownA.pcAt (i := q.length) (by simp)).2.2.2
              rw [List.getElem_concat_length rfl, hX'] at y5
              have Y := Lib.hid (And.intro y3 (And.intro yf (And.intro cv (And.intro y5 (hownA.frozen (q.length * 4 + 3))))))
              have hXc : (⟨(X.data.toList ++ [c]).toArray⟩ : ByteArray) = X ++ ⟨#[c]⟩ := str_eq (by simp [ByteArray.data_append])
              have hL := hownA.last (X.data.toList ++ [c])
              rw [hXc, lq] at hL
              have hXl : X.data.toList = x.t := by rw [HX.out]
              rw [hXl] at hL
              have hA : Only Nob w5 (w5.alloc (.cells #[.int .u8 c.toNat] 5)) := Only.alloc _ _ _
              have HL := Lib.hid (show RpRel w s P g (.slice (some ⟨gb, 0, none⟩) (q.length + 1) cap) ((w5.alloc (.cells #[.int .u8 c.toNat] 5)).setCell ⟨gb, q.length * 4 + 3, none⟩ (.string (X ++ ⟨#[c]⟩))) ∧ RRd ((w5.alloc (.cells #[.int .u8 c.toNat] 5)).setCell ⟨gb, q.length * 4 + 3, none⟩ (.string (X ++ ⟨#[c]⟩))) g s (K + 1) from by
                have r8 : RRd ((w5.alloc (.cells #[.int .u8 c.toNat] 5)).setCell ⟨gb, q.length * 4 + 3, none⟩ (.string (X ++ ⟨#[c]⟩))) g s (K + 1) := (HW.out.1.other hA (fun h => h)).other (Only.setCell (S := Oth g) _ ⟨gb, q.length * 4 + 3, none⟩ _ (fun e => hge e.symm)) (fun h => h rfl)
                refine ⟨⟨K + 1, f, _, hlt1, ?_, HT4.out, hfu, hL, fun i hi => HNew.out i hi, HN2.out, r8, (HW.out.2.1.also hA).put gb _ _ (.inr (HNew.out gb rfl))⟩, r8⟩
                have hpk3 := hpk2
                simp at hpk3 ⊢
                try omega)
              clear hXc hL hXl hA
              clear y3 yf cv y5 hownA hX'
              have hi2 : (q.length : Int) < (q.length : Int) + 1 := by omega
              go_wp2_with (first | (go_at_call 116; (with_reducible refine (RC.out _).mono ?_); rintro e w' ⟨rfl, rfl⟩) | fail)
              rw [← HW5.out]
              obtain ⟨y3, yf, cv, y5, yg⟩ := Y.out
              clear x0
              go_region
              go_wp2_with fail
              go_roundw
              case rel => exact HL.out.1.drew
              case measure => rw [show ∀ W : World, W.drew.cell? ⟨g, 1, none⟩ = W.cell? ⟨g, 1, none⟩ from fun _ => rfl, HL.out.2.cells.2.1, HR.out.cells.2.1]; simp [intOf]; omega
            · rw [addC_run _ _ _ hx0] at HN2 HT4
              have z0 := PcRow.new (w5.alloc (.cells #[.int .u8 c.toNat] 5)) ⟨0, 0, 0, [c]⟩
              rw [show (w5.alloc (.cells #[.int .u8 c.toNat] 5)).heap.size = w3.heap.size + 1 by rw [← hsz]; simp] at z0
              have oA : Only Nob w5 ((w5.alloc (.cells #[.int .u8 c.toNat] 5)).alloc (.cells #[.int .i64 0, .int .i64 0, .int .i64 0, .string ⟨#[c]⟩] 31)) := (Only.alloc _ _ _).nob (Only.alloc _ _ _)
              have hown6 := HW.out.2.2.other oA (fun _ _ h => h)
              rw [lq] at hown6
              have b0 := (Boxed.new w5 5 (.int .u8 c.toNat)).cell
              rw [hsz] at b0
              have cv := conv_one c (w5.alloc (.cells #[.int .u8 c.toNat] 5)) w3.heap.size b0
              have HA := Lib.hid (HW.out.2.1.also oA)
              have HR6 := Lib.hid (HW.out.1.other oA (fun h => h))
              clear oA b0 hsz HW
              clear hfz x3
              subst hw5
              go_wp2_with (first | (go_at_call 116; (with_reducible refine (RC.out _).mono ?_); rintro e w' ⟨rfl, rfl⟩) | (at_builtin; refine wpList_append_pc rfl _ _ rfl _ _ rfl hown6 _ _ rfl z0 (Nat.le_trans hpk2 (by omega)) ?_) | fail)
              intro v' w' ho' on' hb'
              have hk' : K + 1 ≤ s.length := hlt1
              have HZ := Lib.hid (show RpRel w s P g v' w' ∧ RRd w' g s (K + 1) from by
                have r7 := HR6.out.other on' (fun h => by have := HNew.out _ h; omega)
                refine ⟨⟨K + 1, f, _, hk', ?_, HT4.out, hfu, ho', fun i hi => ?_, HN2.out, r7, HA.out.trans on' (fun i _ hi => .inr (HNew.out i hi))⟩, r7⟩
                · have hpk3 := hpk2
                  simp at hpk3 ⊢
                  try omega
                · rcases hb' i hi with h | h
                  · exact HNew.out i h
                  · have := hws.out; omega)
              clear ho' on' hb'
              go_wp2_with fail
              go_roundw
              case rel => exact HZ.out.1
              case measure => rw [HZ.out.2.cells.2.1, HR.out.cells.2.1]; simp [intOf]; omega
      · rw [if_neg h92] at HN
        have h92' : ¬ ((peekL s k).toNat : Int) = 92 := by omega
        have hzz : ¬ (cls (peekL s k) = 0 ∨ special (peekL s k) = true) := fun h => by
          have h2 := HN.out
          rw [if_pos h] at h2
          simp at h2
        rw [if_neg hzz] at HN
        simp only at HN
        have hz : ¬ cls (peekL s k) = 0 := fun h => hzz (.inl h)
        have hsp : special (peekL s k) = false := by simpa using fun h => hzz (.inr h)
        have RC := Lib.hid (rclass_any (peekL s k))
        have SP := Lib.hid (rspecial_any (peekL s k))
        rw [hsp] at SP
        have ix := fun w => index_at s k hlt w
        rw [← byte_at hlt] at ix
        have hfu : s.length - (k + 1) ≤ f := by omega
        have HT3 := HT
        have HT4 := Lib.hid (text_addC p (peekL s k) k HT.out)
        have hpk2 := hpk
        have hkK : k < k + 1 := by omega
        have HN2 := HN
        have hlt1 := hlt
        have HR3 := HR1
        have HO3 := HO1
        have HOwn3 := HOwn1
        clear HN hf hsp HT hpk hlt HR1 HO1 HOwn1 h92 hzz HO HOwn
        generalize cls (peekL s k) = kC at *
        generalize peekL s k = c at *
        obtain ⟨w3, hw3⟩ : ∃ w3, w3 = wr := ⟨_, rfl⟩
        subst hw3
        obtain ⟨K, hKk⟩ : ∃ K, K = k := ⟨_, rfl⟩
        subst hKk
        have hws := Lib.hid HO3.out.size
        have HW : Hid (RRd (w3.setCell ⟨g, 1, none⟩ (.int .i64 ((K : Int) + 1))) g s (K + 1) ∧ Only (Run g w.heap.size) w (w3.setCell ⟨g, 1, none⟩ (.int .i64 ((K : Int) + 1))) ∧ OwnP (w3.setCell ⟨g, 1, none⟩ (.int .i64 ((K : Int) + 1))) (.slice ao p.length cap) p) :=
          ⟨HR3.out.set (K + 1), HO3.out.put g 1 _ (.inl rfl), HOwn3.out.other (Only.setCell (S := Is g) w3 ⟨g, 1, none⟩ _ rfl) (fun i hi h => by have := HNew.out i hi; have h' : i = g := h; omega)⟩
        have HOwn4 := Lib.hid HOwn3.out
        clear HR3 HO3 HOwn3
        have hsz : (w3.setCell ⟨g, 1, none⟩ (.int .i64 ((K : Int) + 1))).heap.size = w3.heap.size := by simp
        rcases List.eq_nil_or_concat p with rfl | ⟨q, x, rfl⟩
        · rw [addC_nil] at HN2 HT4
          obtain ⟨w5, hw5⟩ : ∃ w5, w5 = w3.setCell ⟨g, 1, none⟩ (.int .i64 ((K : Int) + 1)) := ⟨_, rfl⟩
          rw [← hw5] at hsz HW
          have z0 := PcRow.new (w5.alloc (.cells #[.int .u8 c.toNat] 5)) ⟨0, 0, 0, [c]⟩
          rw [show (w5.alloc (.cells #[.int .u8 c.toNat] 5)).heap.size = w3.heap.size + 1 by rw [← hsz]; simp] at z0
          have oA : Only Nob w5 ((w5.alloc (.cells #[.int .u8 c.toNat] 5)).alloc (.cells #[.int .i64 0, .int .i64 0, .int .i64 0, .string ⟨#[c]⟩] 31)) := (Only.alloc _ _ _).nob (Only.alloc _ _ _)
          have hown6 := HW.out.2.2.other oA (fun _ _ h => h)
          have b0 := (Boxed.new w5 5 (.int .u8 c.toNat)).cell
          rw [hsz] at b0
          have cv := conv_one c (w5.alloc (.cells #[.int .u8 c.toNat] 5)) w3.heap.size b0
          have HA := Lib.hid (HW.out.2.1.also oA)
          have HR6 := Lib.hid (HW.out.1.other oA (fun h => h))
          clear oA b0 hsz HW
          subst hw5
          go_wp2_with (first | (go_at_call 108; (with_reducible refine (SP.out _).mono ?_); rintro e w' ⟨rfl, rfl⟩) | (go_at_call 31; (with_reducible refine (RC.out _).mono ?_); rintro e w' ⟨rfl, rfl⟩) | (at_builtin; refine wpList_append_pc rfl _ _ rfl _ _ rfl hown6 _ _ rfl z0 (Nat.le_trans hpk2 (by omega)) ?_) | fail)
          intro v' w' ho' on' hb'
          have hk' : K + 1 ≤ s.length := hlt1
          have HZ := Lib.hid (show RpRel w s P g v' w' ∧ RRd w' g s (K + 1) from by
            have r7 := HR6.out.other on' (fun h => by have := HNew.out _ h; omega)
            refine ⟨⟨K + 1, f, _, hk', ?_, HT4.out, hfu, ho', fun i hi => ?_, HN2.out, r7, HA.out.trans on' (fun i _ hi => .inr (HNew.out i hi))⟩, r7⟩
            · have hpk3 := hpk2
              simp at hpk3 ⊢
              try omega
            · rcases hb' i hi with h | h
              · exact HNew.out i h
              · have := hws.out; omega)
          clear ho' on' hb'
          go_wp2_with fail
          go_roundw
          case rel => exact HZ.out.1
          case measure => rw [HZ.out.2.cells.2.1, HR.out.cells.2.1]; simp [intOf]; omega

        · rw [List.concat_eq_append] at *
          obtain ⟨gb, capq, hvq, -, hgb⟩ := own_form_pos HW.out.2.2 (by simp)
          obtain ⟨rfl, rfl⟩ := (by simpa using hvq : ao = some ⟨gb, 0, none⟩ ∧ cap = capq)
          obtain ⟨x0, x1, x2, x3⟩ := HOwn4.out.pcAt (i := q.length) (by simp)
          have hfz := HOwn4.out.frozen (q.length * 4 + 3)
          have hge : g ≠ gb := fun e => by have := HNew.out gb rfl; omega
          rw [List.getElem_concat_length rfl] at x0 x3
          clear x1 x2 hvq
          have hq60 : q.length < 60 := by simp at hpk2; omega
          have lq : (q ++ [x]).length = q.length + 1 := by simp
          have hi1 : IntKind.i64.wrap ((q.length : Int) + 1 - 1) = (q.length : Int) := by rw [IntWalk.i64_in _ (by omega)]; omega
          obtain ⟨w5, hw5⟩ : ∃ w5, w5 = w3.setCell ⟨g, 1, none⟩ (.int .i64 ((K : Int) + 1)) := ⟨_, rfl⟩
          rw [← hw5] at hsz HW
          by_cases hx0 : x.c = 0
          · rw [addC_lit _ _ _ hx0] at HN2 HT4
            have hown6 := HW.out.2.2
            rw [lq] at hown6
            have HW6 := Lib.hid hown6
            have b0 := (Boxed.new w5 5 (.int .u8 c.toNat)).cell
            rw [hsz] at b0
            have cv := conv_one c (w5.alloc (.cells #[.int .u8 c.toNat] 5)).drew w3.heap.size b0
            have htl : x.t.length ≤ K := HT3.out x (by simp)
            obtain ⟨X, hX⟩ : ∃ X : ByteArray, X = ⟨x.t.toArray⟩ := ⟨_, rfl⟩
            have hXs : X.size ≤ 60 := by rw [hX]; show x.t.length ≤ 60; omega
            have s1 : ∀ w, (Op.stringOp .add X ⟨#[c]⟩).run Tryd.prog w = .ok (.string (X ++ ⟨#[c]⟩)) w := fun w => run_string_add_sum w _ _ (by simp only [sz1]; omega)
            have y3 := (HW.out.2.2.pcAt (i := q.length) (by simp)).2.2.2
            rw [List.getElem_concat_length rfl, ← hX] at y3
            have yf := HW.out.2.2.frozen (q.length * 4 + 3)
            have HX := Lib.hid hX
            have hX' := hX.symm
            have HW5 := Lib.hid hw5
            clear hown6 b0 hX x3 hfz hw5
            have hownA := HW.out.2.2.other (Only.alloc Nob w5 (.cells #[.int .u8 c.toNat] 5)) (fun _ _ h => h)
            have y5 := (hownA.pcAt (i := q.length) (by simp)).2.2.2
            rw [List.getElem_concat_length rfl, hX'] at y5
            have Y := Lib.hid (And.intro y3 (And.intro yf (And.intro cv (And.intro y5 (hownA.frozen (q.length * 4 + 3))))))
            have hXc : (⟨(X.data.toList ++ [c]).toArray⟩ : ByteArray) = X ++ ⟨#[c]⟩ := str_eq (by simp [ByteArray.data_append])
            have hL := hownA.last (X.data.toList ++ [c])
            rw [hXc, lq] at hL
            have hXl : X.data.toList = x.t := by rw [HX.out]
            rw [hXl] at hL
            have hA : Only Nob w5 (w5.alloc (.cells #[.int .u8 c.toNat] 5)) := Only.alloc _ _ _
            have HL := Lib.hid (show RpRel w s P g (.slice (some ⟨gb, 0, none⟩) (q.length + 1) cap) ((w5.alloc (.cells #[.int .u8 c.toNat] 5)).setCell ⟨gb, q.length * 4 + 3, none⟩ (.string (X ++ ⟨#[c]⟩))) ∧ RRd ((w5.alloc (.cells #[.int .u8 c.toNat] 5)).setCell ⟨gb, q.length * 4 + 3, none⟩ (.string (X ++ ⟨#[c]⟩))) g s (K + 1) from by
              have r8 : RRd ((w5.alloc (.cells #[.int .u8 c.toNat] 5)).setCell ⟨gb, q.length * 4 + 3, none⟩ (.string (X ++ ⟨#[c]⟩))) g s (K + 1) := (HW.out.1.other hA (fun h => h)).other (Only.setCell (S := Oth g) _ ⟨gb, q.length * 4 + 3, none⟩ _ (fun e => hge e.symm)) (fun h => h rfl)
              refine ⟨⟨K + 1, f, _, hlt1, ?_, HT4.out, hfu, hL, fun i hi => HNew.out i hi, HN2.out, r8, (HW.out.2.1.also hA).put gb _ _ (.inr (HNew.out gb rfl))⟩, r8⟩
              have hpk3 := hpk2
              simp at hpk3 ⊢
              try omega)
            clear hXc hL hXl hA
            clear y3 yf cv y5 hownA hX'
            have hi2 : (q.length : Int) < (q.length : Int) + 1 := by omega
            go_wp2_with (first | (go_at_call 108; (with_reducible refine (SP.out _).mono ?_); rintro e w' ⟨rfl, rfl⟩) | (go_at_call 31; (with_reducible refine (RC.out _).mono ?_); rintro e w' ⟨rfl, rfl⟩) | fail)
            rw [← HW5.out]
            obtain ⟨y3, yf, cv, y5, yg⟩ := Y.out
            clear x0
            go_region
            go_wp2_with fail
            go_roundw
            case rel => exact HL.out.1.drew
            case measure => rw [show ∀ W : World, W.drew.cell? ⟨g, 1, none⟩ = W.cell? ⟨g, 1, none⟩ from fun _ => rfl, HL.out.2.cells.2.1, HR.out.cells.2.1]; simp [intOf]; omega
          · rw [addC_run _ _ _ hx0] at HN2 HT4
            have z0 := PcRow.new (w5.alloc (.cells #[.int .u8 c.toNat] 5)) ⟨0, 0, 0, [c]⟩
            rw [show (w5.alloc (.cells #[.int .u8 c.toNat] 5)).heap.size = w3.heap.size + 1 by rw [← hsz]; simp] at z0
            have oA : Only Nob w5 ((w5.alloc (.cells #[.int .u8 c.toNat] 5)).alloc (.cells #[.int .i64 0, .int .i64 0, .int .i64 0, .string ⟨#[c]⟩] 31)) := (Only.alloc _ _ _).nob (Only.alloc _ _ _)
            have hown6 := HW.out.2.2.other oA (fun _ _ h => h)
            rw [lq] at hown6
            have b0 := (Boxed.new w5 5 (.int .u8 c.toNat)).cell
            rw [hsz] at b0
            have cv := conv_one c (w5.alloc (.cells #[.int .u8 c.toNat] 5)) w3.heap.size b0
            have HA := Lib.hid (HW.out.2.1.also oA)
            have HR6 := Lib.hid (HW.out.1.other oA (fun h => h))
            clear oA b0 hsz HW
            clear hfz x3
            subst hw5
            go_wp2_with (first | (go_at_call 108; (with_reducible refine (SP.out _).mono ?_); rintro e w' ⟨rfl, rfl⟩) | (go_at_call 31; (with_reducible refine (RC.out _).mono ?_); rintro e w' ⟨rfl, rfl⟩) | (at_builtin; refine wpList_append_pc rfl _ _ rfl _ _ rfl hown6 _ _ rfl z0 (Nat.le_trans hpk2 (by omega)) ?_) | fail)
            intro v' w' ho' on' hb'
            have hk' : K + 1 ≤ s.length := hlt1
            have HZ := Lib.hid (show RpRel w s P g v' w' ∧ RRd w' g s (K + 1) from by
              have r7 := HR6.out.other on' (fun h => by have := HNew.out _ h; omega)
              refine ⟨⟨K + 1, f, _, hk', ?_, HT4.out, hfu, ho', fun i hi => ?_, HN2.out, r7, HA.out.trans on' (fun i _ hi => .inr (HNew.out i hi))⟩, r7⟩
              · have hpk3 := hpk2
                simp at hpk3 ⊢
                try omega
              · rcases hb' i hi with h | h
                · exact HNew.out i h
                · have := hws.out; omega)
            clear ho' on' hb'
            go_wp2_with fail
            go_roundw
            case rel => exact HZ.out.1
            case measure => rw [HZ.out.2.cells.2.1, HR.out.cells.2.1]; simp [intOf]; omega
    · have kk : ¬ (k : Int) < (s.length : Int) := by omega
      rw [piecesF_end _ _ hlt] at hn
      have HN := Lib.hid hn
      clear hn
      have HH := H0
      clear H0 c1 c3 cf c0
      have hcc := HR.out.cells
      obtain ⟨c0, c1, c3, cf⟩ := hcc
      go_wp2
      obtain ⟨-, o1, z1⟩ := HH.out
      have hpP : p = P := by simpa using HN.out
      subst hpP
      have hg0 := HG.out
      refine ⟨rfl, .tuple #[.slice ao p.length cap, .int .i64 0, .int .i64 0], ?_, _, rfl, HOwn.out, ?_⟩
      · simp [results]
      · have o2 : Only (fun i => g ≤ i) v0 wr := (o1.mono (fun _ _ h => h.elim)).trans HO.out (fun i _ h => by
          rcases h with h | h
          · have h' : i = g := h; omega
          · omega)
        exact o2.mono (fun i hi h => absurd hi (by omega))

end Go.Proofs.YtddjbfmohibgbaaDoor

/- What the sanity check calls: read, fails. -/
namespace Go.Proofs.YtddjbfmohibgbaaDoor
open Go.RowKit

theorem read_any (s : List UInt8) (P : List Pc) (w : World) (hs : s.length ≤ 60) (hnb : ∀ k, (peekL s k).toNat ≠ 123) (hP : piecesF s s.length 0 [] = .ok P) :
    Calls Tryd.prog 56 #[.string ⟨s.toArray⟩] w fun e w' => ∃ v, e = .returned v ∧ OwnP w' v P ∧ Only Nob w w' := by
  have R := Lib.hid (rparse_any s P w hs hnb hP)
  clear hnb hP
  go_enter Tryd.func56, Tryd.ntmps56
  go_wp2_with fail
  refine R.out.mono ?_
  rintro e w1 ⟨v, rfl, hown, ho⟩
  obtain ⟨ao, cap, rfl⟩ := hown.form
  have H := Lib.hid (And.intro hown ho)
  clear hown ho R
  go_wp2
  go_ret
  exact ⟨_, rfl, H.out.1, H.out.2⟩

theorem fails_any (s : List UInt8) (a x : Nat) (w : World) (hs : s.length ≤ 60) (h : parseL s = .error (a, x)) :
    Calls Tryd.prog 55 #[.string ⟨s.toArray⟩, .int .i64 (a : Int), .int .i64 (x : Int)] w fun e w' => e = .returned (.bool true) ∧ Only Nob w w' := by
  have R := Lib.hid (parse_any s w (by omega))
  rw [h] at R
  clear h
  go_enter Tryd.func55, Tryd.ntmps55
  go_wp2_with fail
  refine R.out.mono ?_
  rintro e w1 ⟨ho, rfl⟩
  have H := Lib.hid ho
  clear ho R
  go_wp2
  go_ret
  exact ⟨rfl, H.out⟩

theorem reads_ul : piecesF [92, 117, 92, 108, 42] 5 0 [] = .ok [⟨2, 1, 1, []⟩, ⟨3, 0, 200, []⟩] := by rfl
theorem reads_d : piecesF [92, 100, 43] 3 0 [] = .ok [⟨1, 1, 200, []⟩] := by rfl
theorem reads_a : piecesF [92, 97, 43] 3 0 [] = .ok [⟨4, 1, 200, []⟩] := by rfl
theorem reads_one : parseL [92, 100, 123, 52, 125, 45, 92, 100, 43] = .ok [⟨1, 4, 4, []⟩, ⟨0, 0, 0, [45]⟩, ⟨1, 1, 200, []⟩] := by rfl
theorem bad_x : parseL [92, 120] = .error (1, 12) := by rfl
theorem bad_a : parseL [97, 43] = .error (1, 12) := by rfl
theorem bad_52 : parseL [92, 100, 123, 53, 44, 50, 125] = .error (2, 3) := by rfl
theorem bad_dx : parseL [92, 100, 123, 120, 125] = .error (3, 12) := by rfl

end Go.Proofs.YtddjbfmohibgbaaDoor
