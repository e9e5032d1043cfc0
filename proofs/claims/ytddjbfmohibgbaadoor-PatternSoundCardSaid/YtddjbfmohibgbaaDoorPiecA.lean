/- Chapter 05: Parse. -/
import Derived.Test.YtddjbfmohibgbaaDoorRdA
import Derived.Defers
import Derived.Recover

/- The reader's pieces. -/
namespace Go.Proofs.YtddjbfmohibgbaaDoor
open Go.RowKit

theorem idx_nameN (c : UInt8) : Lib.indexByte [100, 117, 108, 97, 115, 111, 46] c = nameN c - 1 := by
  have f : ∀ a b : UInt8, ¬ b = a → (a == b) = false := fun a b h => by simp; exact fun e => h e.symm
  by_cases h1 : c = 100; · subst h1; decide
  by_cases h2 : c = 117; · subst h2; decide
  by_cases h3 : c = 108; · subst h3; decide
  by_cases h4 : c = 97; · subst h4; decide
  by_cases h5 : c = 115; · subst h5; decide
  by_cases h6 : c = 111; · subst h6; decide
  by_cases h7 : c = 46; · subst h7; decide
  have e : ∀ a : UInt8, ¬ c = a → ¬ a = c := fun a h e => h e.symm
  simp [Lib.indexByte, nameN, idxF, names, f _ _ h1, f _ _ h2, f _ _ h3, f _ _ h4, f _ _ h5, f _ _ h6, f _ _ h7, e _ h1, e _ h2, e _ h3, e _ h4, e _ h5, e _ h6, e _ h7]

theorem idxF_rng : ∀ (l : List UInt8) (c : UInt8) (k : Int), 0 ≤ k → -1 ≤ idxF l c k ∧ idxF l c k ≤ k + l.length
  | [], _, k, h => by simp [idxF]; omega
  | a :: l, c, k, h => by
    have := idxF_rng l c (k + 1) (by omega)
    unfold idxF
    split
    · simp; omega
    · simp at this ⊢; omega
theorem nameN_rng (c : UInt8) : 0 ≤ nameN c ∧ nameN c ≤ 8 := by
  have := idxF_rng names c 0 (by omega)
  unfold nameN
  simp [names] at this ⊢
  omega
theorem nameN_zero {c : UInt8} (h : 0 < nameN c) : c.toNat ≠ 0 := fun e => by
  have : c = 0 := UInt8.toNat_inj.1 e
  subst this
  exact absurd h (by decide)
theorem special_cls {c : UInt8} (h : special c = true) : ¬ cls c = 0 := by
  simp only [special, Bool.or_eq_true, beq_iff_eq] at h
  rcases h with (((rfl | rfl) | rfl) | rfl) | rfl <;> decide

theorem idx_names (c : UInt8) (w : World) : Calls Tryd.prog 102 #[.string ⟨#[100, 117, 108, 97, 115, 111, 46]⟩, .int .u8 c.toNat] w fun e w' => e = .returned (.int .i64 (nameN c - 1)) ∧ w = w' := by
  refine (Tryd.strings_IndexByte ⟨#[100, 117, 108, 97, 115, 111, 46]⟩ c.toNat w).mono ?_
  rintro e w' ⟨rfl, rfl⟩
  exact ⟨by rw [byte_back]; exact congrArg (fun x => Ending.returned (.int .i64 x)) (idx_nameN c), rfl⟩

/-- What the reading of all pieces leaves. -/
def PiPost (R : PR (List Pc)) (g : Nat) (w : World) (e : Ending) (w' : World) : Prop :=
  Only (Is g) w w' ∧ match R with
    | .ok p => ∃ v, e = .returned v ∧ OwnP w' v p ∧ (∀ k, Blk v k → w.heap.size ≤ k)
    | .error (a, x) => e = Mis a x
theorem PiPost.bad {R : PR (List Pc)} {g : Nat} {w w' : World} {a x : Nat} (h : R = .error (a, x)) (ho : Only (Is g) w w') : PiPost R g w (Mis a x) w' := by
  subst h; exact ⟨ho, rfl⟩

theorem cnt_ok {s : List UInt8} {k l m k2 : Nat} (hk : k ≤ s.length) (h : cntL s k = .ok ((l, m), k2)) : k ≤ k2 ∧ k2 ≤ s.length := by
  unfold cntL at h
  split at h
  · rename_i hc
    have := peekL_some (s := s) (k := k) (fun e => by rw [e] at hc; exact absurd hc (by decide))
    cases h; omega
  · split at h
    · rename_i hc
      have := peekL_some (s := s) (k := k) (fun e => by rw [e] at hc; exact absurd hc (by decide))
      cases h; omega
    · split at h
      · rename_i hc
        have h1 := peekL_some (s := s) (k := k) (fun e => by rw [e] at hc; exact absurd hc (by decide))
        have := bracesL_ok h1 h
        omega
      · cases h; omega

theorem addC_nil (c : UInt8) : addC [] c = [⟨0, 0, 0, [c]⟩] := rfl
theorem addC_lit (q : List Pc) (x : Pc) (c : UInt8) (h : x.c = 0) : addC (q ++ [x]) c = q ++ [⟨x.c, x.l, x.m, x.t ++ [c]⟩] := by
  unfold addC; simp [h]
theorem addC_run (q : List Pc) (x : Pc) (c : UInt8) (h : ¬ x.c = 0) : addC (q ++ [x]) c = q ++ [x, ⟨0, 0, 0, [c]⟩] := by
  unfold addC; simp [h]
theorem text_addC (p : List Pc) (c : UInt8) (k : Nat) (h : ∀ x ∈ p, x.t.length ≤ k) : ∀ x ∈ addC p c, x.t.length ≤ k + 1 := by
  rcases List.eq_nil_or_concat p with rfl | ⟨q, x, rfl⟩
  · intro x hx
    simp [addC] at hx
    subst hx
    simp
  · rw [List.concat_eq_append] at *
    have hx := h x (by simp)
    by_cases h0 : x.c = 0
    · rw [addC_lit _ _ _ h0]
      intro y hy
      rcases List.mem_append.1 hy with hy | hy
      · have := h y (by simp [hy]); omega
      · simp only [List.mem_singleton] at hy
        subst hy
        simp; omega
    · rw [addC_run _ _ _ h0]
      intro y hy
      rcases List.mem_append.1 hy with hy | hy
      · have := h y (by simp [hy]); omega
      · simp only [List.mem_cons, List.not_mem_nil, or_false] at hy
        rcases hy with rfl | rfl
        · omega
        · simp
theorem length_addC (p : List Pc) (c : UInt8) : (addC p c).length ≤ p.length + 1 := by
  rcases List.eq_nil_or_concat p with rfl | ⟨q, x, rfl⟩
  · simp [addC]
  · rw [List.concat_eq_append]
    by_cases h : x.c = 0
    · rw [addC_lit _ _ _ h]; simp
    · rw [addC_run _ _ _ h]; simp

/-- One byte as a slice, as a string. -/
theorem conv_one (c : UInt8) (w : World) (b : Nat) (h : w.cell? ⟨b, 0, none⟩ = some (.int .u8 c.toNat)) : (convert 41 9 (.slice (some ⟨b, 0, none⟩) 1 1)).run Tryd.prog w = .ok (.string ⟨#[c]⟩) w := by
  have h1 := run_convert_bytes_back (P := Tryd.prog) w 41 9 5 ⟨b, 0, none⟩ 1 [c] Tryd.underlying41 Tryd.underlying5 Tryd.underlying9
  exact h1 (fun j hj => by
    have e : j = 0 := by simpa using hj
    subst e
    rw [addr_add0]
    exact h)

/-- What the loop knows. -/
def PiRel (w : World) (s : List UInt8) (g : Nat) (out : Value) (wr : World) : Prop :=
  ∃ (k f : Nat) (p : List Pc), k ≤ s.length ∧ p.length ≤ k ∧ (∀ x ∈ p, x.t.length ≤ k) ∧ s.length - k ≤ f ∧ OwnP wr out p ∧ (∀ i, Blk out i → w.heap.size ≤ i) ∧ piecesF s f k p = piecesF s s.length 0 [] ∧ Rd wr g s k ∧ Only (Run g w.heap.size) w wr

theorem PiRel.drew {w : World} {s : List UInt8} {g : Nat} {out : Value} {wr : World} (h : PiRel w s g out wr) : PiRel w s g out wr.drew := by
  obtain ⟨k, f, p, h1, h2, h3, h4, h5, h6, h7, h8, h9⟩ := h
  exact ⟨k, f, p, h1, h2, h3, h4, h5.other (Only.drew Nob _) (fun _ _ h => h), h6, h7, h8.other (Only.drew Nob _) (fun h => h), h9.also (Only.drew Nob _)⟩

theorem piecesF_end {s : List UInt8} {k : Nat} (f : Nat) (p : List Pc) (h : ¬ k < s.length) : piecesF s f k p = .ok p := by
  cases f with
  | zero => rfl
  | succ f => unfold piecesF; rw [if_neg h]

set_option maxRecDepth 100000 in
set_option maxHeartbeats 4000000 in
theorem pieces_any (g : Nat) (s : List UInt8) (w : World) (hr : Rd w g s 0) (hs : s.length ≤ 60) :
    Calls Tryd.prog 60 #[.pointer (some ⟨g, 0, none⟩)] w (PiPost (piecesF s s.length 0 []) g w) := by
  have hgw := hr.lt
  have HB : Hid (PiRel w s g (.slice none 0 0) w) := ⟨0, s.length, [], Nat.zero_le _, Nat.zero_le _, (fun x hx => by cases hx), Nat.sub_le _ _, OwnP.nil w, fun i hi => by simp [Blk, Value.ownBlock] at hi, rfl, hr, Only.refl _ _⟩
  clear hr
  go_enter Tryd.func60, Tryd.ntmps60
  go_wp2_with fail
  go_loopw [3] (fun out wr => PiRel w s g out wr) (fun _ wr => s.length - (intOf ((wr.cell? ⟨g, 1, none⟩).getD undef)).toNat)
  case atStart => exact HB.out
  case round =>
    obtain ⟨k, f, p, hk, hpk, htx, hf, hown, hnew, hn, hrd, hon⟩ := hrel
    clear HB
    obtain ⟨ao, cap, rfl⟩ := hown.form
    obtain ⟨c0, c1, cf⟩ := hrd.cells
    have HOwn := Lib.hid hown
    have HT := Lib.hid htx
    clear htx
    have HNew := Lib.hid hnew
    have HO := Lib.hid hon
    have HR := Lib.hid hrd
    clear hown hnew hon hrd
    by_cases hlt : k < s.length
    · have kk : (k : Int) < (s.length : Int) := by omega
      obtain ⟨f, rfl⟩ : ∃ f', f = f' + 1 := ⟨f - 1, by omega⟩
      rw [piecesF, if_pos hlt] at hn
      have HN := Lib.hid hn
      clear hn
      go_wp2_with fail
      go_region_held3 (fun w' => w'.cell? ⟨g, 0, none⟩ = some (.string ⟨s.toArray⟩) ∧ w'.cell? ⟨g, 1, none⟩ = some (.int .i64 (k : Int))) (exact ⟨c0, c1⟩) (fail)
      go_wp2_with fail
      refine (peek_any g s k _ (HR.out.other (Only.drew Nob _) (fun h => h))).mono ?_
      rintro e w1 ⟨rfl, o1⟩
      have HO1 := Lib.hid (HO.out.also ((Only.drew Nob _).nob o1))
      have HR1 := Lib.hid (HR.out.other ((Only.drew Nob _).nob o1) (fun h => h))
      have HOwn1 := Lib.hid (HOwn.out.other ((Only.drew Nob _).nob o1) (fun _ _ h => h))
      clear o1 HO HOwn c0 c1 cf kk
      unfold stepP at HN
      by_cases h92 : (peekL s k).toNat = 92
      · rw [if_pos h92] at HN
        obtain ⟨c0, c1, cf⟩ := HR1.out.cells
        have HS := Lib.hid (HR1.out.set (k + 1))
        rw [h92]
        go_wp2_with fail
        refine (peek_any g s (k + 1) _ HS.out).mono ?_
        rintro e w3 ⟨rfl, o3⟩
        have HO3 := Lib.hid ((HO1.out.put g 1 (.int .i64 ((k + 1 : Nat) : Int)) (.inl rfl)).also o3)
        have HR3 := Lib.hid (HS.out.other o3 (fun h => h))
        have HOwn3 := Lib.hid ((HOwn1.out.other (Only.setCell (S := Is g) w1 ⟨g, 1, none⟩ (.int .i64 ((k + 1 : Nat) : Int)) rfl) (fun i hi h => by have := HNew.out i hi; have h' : i = g := h; omega)).other o3 (fun _ _ h => h))
        clear o3 HO1 HR1 HOwn1 HS c0 c1 cf
        have hnr := nameN_rng (peekL s (k + 1))
        have hnz := @nameN_zero (peekL s (k + 1))
        have IN := Lib.hid (idx_names (peekL s (k + 1)))
        obtain ⟨c0, c1, cf⟩ := HR3.out.cells
        by_cases hnm : 0 < nameN (peekL s (k + 1))
        · rw [if_pos hnm] at HN
          have hz := hnz hnm
          clear hnz
          have hlt1 : k + 1 < s.length := peekL_some (fun e => by rw [e] at hz; exact hz rfl)
          generalize (peekL s (k + 1)).toNat = cN at hz IN
          generalize nameN (peekL s (k + 1)) = nN at *
          have hpk2 : p.length ≤ k + 1 := by omega
          have hfu : ∀ k2, k + 1 + 1 ≤ k2 → s.length - k2 ≤ f := fun k2 h => by omega
          have HT3 := Lib.hid (fun y hy => Nat.le_trans (HT.out y hy) (show k ≤ k + 1 by omega))
          have hkK : k < k + 1 := by omega
          have HN2 : Hid ((match (match cntL s (k + 1 + 1) with | .error e => .error e | .ok ((l, m), k2) => .ok (k2, p ++ [⟨nN, l, m, []⟩]) : PR (Nat × List Pc)) with | .error e => .error e | .ok (k2, p2) => piecesF s f k2 p2) = piecesF s s.length 0 []) := HN
          have hws := Lib.hid HO3.out.size
          clear HN hf hlt hpk HT
          generalize k + 1 = K at *
          have HW : Hid (Rd (w3.setCell ⟨g, 1, none⟩ (.int .i64 ((K : Int) + 1))) g s (K + 1) ∧ Only (Run g w.heap.size) w (w3.setCell ⟨g, 1, none⟩ (.int .i64 ((K : Int) + 1))) ∧ OwnP (w3.setCell ⟨g, 1, none⟩ (.int .i64 ((K : Int) + 1))) (.slice ao p.length cap) p) :=
            ⟨HR3.out.set (K + 1), HO3.out.put g 1 _ (.inl rfl), HOwn3.out.other (Only.setCell (S := Is g) w3 ⟨g, 1, none⟩ _ rfl) (fun i hi h => by have := HNew.out i hi; have h' : i = g := h; omega)⟩
          clear HR3 HO3 HOwn3
          have hsz : (w3.setCell ⟨g, 1, none⟩ (.int .i64 ((K : Int) + 1))).heap.size = w3.heap.size := by simp
          have RU := Lib.hid (run_any g s (K + 1) nN _ HW.out.1 hlt1 (by omega))
          have HWs : Hid (w.heap.size ≤ (w3.setCell ⟨g, 1, none⟩ (.int .i64 ((K : Int) + 1))).heap.size) := by rw [hsz]; exact hws.out
          clear hsz hws
          unfold runV pcV SV at RU
          go_wp2_with (first | (go_at_call 102; refine (IN.out _).mono ?_; rintro e w' ⟨rfl, rfl⟩) | fail)
          refine RU.out.mono ?_
          clear c0 c1 cf RU
          generalize w3.setCell ⟨g, 1, none⟩ (.int .i64 ((K : Int) + 1)) = w5 at *
          cases hN : cntL s (K + 1) with
          | error ae =>
            obtain ⟨a, ae⟩ := ae
            rintro e w6 ⟨o6, rfl⟩
            rw [hN] at HN2
            exact ⟨rfl, PiPost.bad HN2.out.symm (only_run (HW.out.2.1.trans o6 (fun i _ h => .inl h)))⟩
          | ok nk =>
            obtain ⟨⟨l, m⟩, k2⟩ := nk
            rintro e w6 ⟨o6, rfl, r6⟩
            rw [hN] at HN2
            simp only at HN2
            obtain ⟨hk2, hk3⟩ := cnt_ok hlt1 hN
            have z0 := PcRow.new w6 ⟨nN, l, m, []⟩
            have oA : Only Nob w6 (w6.alloc (.cells #[.int .i64 nN, .int .i64 l, .int .i64 m, .string ⟨#[]⟩] 31)) := Only.alloc _ _ _
            have hown7 := (HW.out.2.2.other o6 (fun i hi h => by have := HNew.out i hi; have h' : i = g := h; omega)).other oA (fun _ _ h => h)
            have HA := Lib.hid ((HW.out.2.1.trans o6 (fun i _ h => .inl h)).also oA)
            have HR7 := Lib.hid (r6.other oA (fun h => h))
            have hws : Hid (w.heap.size ≤ w6.heap.size) := Nat.le_trans HWs.out o6.size
            clear oA o6 r6 hN HW HWs
            go_wp2_with (first | (at_builtin; refine wpList_append_pc rfl _ _ rfl _ _ rfl hown7 _ _ rfl z0 (Nat.le_trans hpk2 (by omega)) ?_) | fail)
            intro v' w' ho' on' hb'
            have HZ := Lib.hid (show PiRel w s g v' w' ∧ Rd w' g s k2 from by
              have r7 := HR7.out.other on' (fun h => by have := HNew.out _ h; omega)
              refine ⟨⟨k2, f, _, hk3, ?_, ?_, hfu _ hk2, ho', fun i hi => ?_, HN2.out, r7, HA.out.trans on' (fun i _ hi => .inr (HNew.out i hi))⟩, r7⟩
              · simp; omega
              · intro y hy
                rcases List.mem_append.1 hy with hy | hy
                · exact Nat.le_trans (HT3.out y hy) (by omega)
                · simp only [List.mem_singleton] at hy
                  subst hy
                  simp
              · rcases hb' i hi with h | h
                · exact HNew.out i h
                · have := hws.out; omega)
            clear ho' on' hb'
            go_wp2_with fail
            go_roundw
            case rel => exact HZ.out.1
            case measure => rw [HZ.out.2.cells.2.1, HR.out.cells.2.1]; simp [intOf]; omega
        · rw [if_neg hnm] at HN
          have hn0 : nameN (peekL s (k + 1)) = 0 := by omega
          rw [hn0] at IN
          clear hnz hnr hnm hn0
          go_wp2_with (first | (go_at_call 102; refine (IN.out _).mono ?_; rintro e w' ⟨rfl, rfl⟩) | fail)
          by_cases hsp : special (peekL s (k + 1)) = true
          · rw [if_pos hsp] at HN
            simp only at HN
            have hcl := special_cls hsp
            have hjx := idxS_yes hsp
            have hlt1 : k + 1 < s.length := peekL_some (fun e => by rw [e] at hsp; exact absurd hsp (by decide))
            generalize peekL s (k + 1) = c at *
            have CL := Lib.hid (class_any c)
            have IX := Lib.hid (idx_special c)
            generalize cls c = kC at hcl CL
            generalize idxS c = jS at hjx IX
            have HN2 : Hid (piecesF s f (k + 1 + 1) (addC p c) = piecesF s s.length 0 []) := HN
            have hfu : s.length - (k + 1 + 1) ≤ f := by omega
            have hpk2 : p.length ≤ k + 1 := by omega
            have HT2 := Lib.hid (text_addC p c k HT.out)
            have HT3 := Lib.hid (fun y hy => Nat.le_trans (HT.out y hy) (show k ≤ k + 1 by omega))
            have hkK : k < k + 1 := by omega
            have HT4 : Hid (∀ y ∈ addC p c, y.t.length ≤ k + 1 + 1) := (fun y hy => Nat.le_trans (HT2.out y hy) (by omega))
            clear HN hf hlt HT2
            generalize k + 1 = K at *
            have hws := Lib.hid HO3.out.size
            have HW : Hid (Rd (w3.setCell ⟨g, 1, none⟩ (.int .i64 ((K : Int) + 1))) g s (K + 1) ∧ Only (Run g w.heap.size) w (w3.setCell ⟨g, 1, none⟩ (.int .i64 ((K : Int) + 1))) ∧ OwnP (w3.setCell ⟨g, 1, none⟩ (.int .i64 ((K : Int) + 1))) (.slice ao p.length cap) p) :=
              ⟨HR3.out.set (K + 1), HO3.out.put g 1 _ (.inl rfl), HOwn3.out.other (Only.setCell (S := Is g) w3 ⟨g, 1, none⟩ _ rfl) (fun i hi h => by have := HNew.out i hi; have h' : i = g := h; omega)⟩
            have HOwn4 := Lib.hid HOwn3.out
            clear HR3 HO3 HOwn3
            have hsz : (w3.setCell ⟨g, 1, none⟩ (.int .i64 ((K : Int) + 1))).heap.size = w3.heap.size := by simp
            rcases List.eq_nil_or_concat p with rfl | ⟨q, x, rfl⟩
            · rw [addC_nil] at HN2 HT4
              obtain ⟨w5, hw5⟩ : ∃ w5, w5 = w3.setCell ⟨g, 1, none⟩ (.int .i64 ((K : Int) + 1)) := ⟨_, rfl⟩
              rw [← hw5] at hsz HW
              have z0 := PcRow.new (w5.alloc (.cells #[.int .u8 c.toNat] 5)) ⟨0, 0, 0, [c]⟩
              rw [show (w5.alloc (.cells #[.int .u8 c.toNat] 5)).heap.size = w3.heap.size + 1 by rw [← hsz]; simp] at z0
              have oA : Only Nob w5 ((w5.alloc (.cells #[.int .u8 c.toNat] 5)).alloc (.cells #[.int .i64 0, .int .i64 0, .int .i64 0, .string ⟨#[c]⟩] 31)) := (Only.alloc _ _ _).nob (Only.alloc _ _ _)
              have hown6 := HW.out.2.2.other oA (fun _ _ h => h)
              have b0 := (Boxed.new w5 5 (.int .u8 c.toNat)).cell
              rw [hsz] at b0
              have cv := conv_one c (w5.alloc (.cells #[.int .u8 c.toNat] 5)) w3.heap.size b0
              have HA := Lib.hid (HW.out.2.1.also oA)
              have HR6 := Lib.hid (HW.out.1.other oA (fun h => h))
              clear oA b0 hsz HW
              subst hw5
              go_wp2_with (first | (go_at_call 30; refine (CL.out _).mono ?_; rintro e w' ⟨rfl, rfl⟩) | (go_at_call 102; refine (IX.out _).mono ?_; rintro e w' ⟨rfl, rfl⟩) | (at_builtin; refine wpList_append_pc rfl _ _ rfl _ _ rfl hown6 _ _ rfl z0 (Nat.le_trans hpk2 (by omega)) ?_) | fail)
              intro v' w' ho' on' hb'
              have hk' : K + 1 ≤ s.length := hlt1
              have HZ := Lib.hid (show PiRel w s g v' w' ∧ Rd w' g s (K + 1) from by
                have r7 := HR6.out.other on' (fun h => by have := HNew.out _ h; omega)
                refine ⟨⟨K + 1, f, _, hk', ?_, HT4.out, hfu, ho', fun i hi => ?_, HN2.out, r7, HA.out.trans on' (fun i _ hi => .inr (HNew.out i hi))⟩, r7⟩
                · have hpk3 := hpk2
                  simp at hpk3 ⊢
                  try omega
                · rcases hb' i hi with h | h
                  · exact HNew.out i h
                  · have := hws.out; omega)
              clear ho' on' hb'
              go_wp2_with fail
              go_roundw
              case rel => exact HZ.out.1
              case measure => rw [HZ.out.2.cells.2.1, HR.out.cells.2.1]; simp [intOf]; omega

            · rw [List.concat_eq_append] at *
              obtain ⟨gb, capq, hvq, -, hgb⟩ := own_form_pos HW.out.2.2 (by simp)
              obtain ⟨rfl, rfl⟩ := (by simpa using hvq : ao = some ⟨gb, 0, none⟩ ∧ cap = capq)
              obtain ⟨x0, x1, x2, x3⟩ := HOwn4.out.pcAt (i := q.length) (by simp)
              have hfz := HOwn4.out.frozen (q.length * 4 + 3)
              have hge : g ≠ gb := fun e => by have := HNew.out gb rfl; omega
              rw [List.getElem_concat_length rfl] at x0 x3
              clear x1 x2 hvq
              have hq60 : q.length < 60 := by simp at hpk2; omega
              have lq : (q ++ [x]).length = q.length + 1 := by simp
              have hi1 : IntKind.i64.wrap ((q.length : Int) + 1 - 1) = (q.length : Int) := by rw [IntWalk.i64_in _ (by omega)]; omega
              obtain ⟨w5, hw5⟩ : ∃ w5, w5 = w3.setCell ⟨g, 1, none⟩ (.int .i64 ((K : Int) + 1)) := ⟨_, rfl⟩
              rw [← hw5] at hsz HW
              by_cases hx0 : x.c = 0
              · rw [addC_lit _ _ _ hx0] at HN2 HT4
                have hown6 := HW.out.2.2
                rw [lq] at hown6
                have HW6 := Lib.hid hown6
                have b0 := (Boxed.new w5 5 (.int .u8 c.toNat)).cell
                rw [hsz] at b0
                have cv := conv_one c (w5.alloc (.cells #[.int .u8 c.toNat] 5)).drew w3.heap.size b0
                have htl : x.t.length ≤ K := HT3.out x (by simp)
                obtain ⟨X, hX⟩ : ∃ X : ByteArray, X = ⟨x.t.toArray⟩ := ⟨_, rfl⟩
                have hXs : X.size ≤ 60 := by rw [hX]; show x.t.length ≤ 60; omega
                have s1 : ∀ w, (Op.stringOp .add X ⟨#[c]⟩).run Tryd.prog w = .ok (.string (X ++ ⟨#[c]⟩)) w := fun w => run_string_add_sum w _ _ (by simp only [sz1]; omega)
                have y3 := (HW.out.2.2.pcAt (i := q.length) (by simp)).2.2.2
                rw [List.getElem_concat_length rfl, ← hX] at y3
                have yf := HW.out.2.2.frozen (q.length * 4 + 3)
                have HX := Lib.hid hX
                have hX' := hX.symm
                have HW5 := Lib.hid hw5
                clear hown6 b0 hX x3 hfz hw5
                have hownA := HW.out.2.2.other (Only.alloc Nob w5 (.cells #[.int .u8 c.toNat] 5)) (fun _ _ h => h)
                have y5 := (hownA.pcAt (i := q.length) (by simp)).2.2.2
                rw [List.getElem_concat_length rfl, hX'] at y5
                have Y := Lib.hid (And.intro y3 (And.intro yf (And.intro cv (And.intro y5 (hownA.frozen (q.length * 4 + 3))))))
                have hXc : (⟨(X.data.toList ++ [c]).toArray⟩ : ByteArray) = X ++ ⟨#[c]⟩ := str_eq (by simp [ByteArray.data_append])
                have hL := hownA.last (X.data.toList ++ [c])
                rw [hXc, lq] at hL
                have hXl : X.data.toList = x.t := by rw [HX.out]
                rw [hXl] at hL
                have hA : Only Nob w5 (w5.alloc (.cells #[.int .u8 c.toNat] 5)) := Only.alloc _ _ _
                have HL := Lib.hid (show PiRel w s g (.slice (some ⟨gb, 0, none⟩) (q.length + 1) cap) ((w5.alloc (.cells #[.int .u8 c.toNat] 5)).setCell ⟨gb, q.length * 4 + 3, none⟩ (.string (X ++ ⟨#[c]⟩))) ∧ Rd ((w5.alloc (.cells #[.int .u8 c.toNat] 5)).setCell ⟨gb, q.length * 4 + 3, none⟩ (.string (X ++ ⟨#[c]⟩))) g s (K + 1) from by
                  have r8 : Rd ((w5.alloc (.cells #[.int .u8 c.toNat] 5)).setCell ⟨gb, q.length * 4 + 3, none⟩ (.string (X ++ ⟨#[c]⟩))) g s (K + 1) := (HW.out.1.other hA (fun h => h)).other (Only.setCell (S := Oth g) _ ⟨gb, q.length * 4 + 3, none⟩ _ (fun e => hge e.symm)) (fun h => h rfl)
                  refine ⟨⟨K + 1, f, _, hlt1, ?_, HT4.out, hfu, hL, fun i hi => HNew.out i hi, HN2.out, r8, (HW.out.2.1.also hA).put gb _ _ (.inr (HNew.out gb rfl))⟩, r8⟩
                  have hpk3 := hpk2
                  simp at hpk3 ⊢
                  try omega)
                clear hXc hL hXl hA
                clear y3 yf cv y5 hownA hX'
                have hi2 : (q.length : Int) < (q.length : Int) + 1 := by omega
                go_wp2_with (first | (go_at_call 30; refine (CL.out _).mono ?_; rintro e w' ⟨rfl, rfl⟩) | (go_at_call 102; refine (IX.out _).mono ?_; rintro e w' ⟨rfl, rfl⟩) | fail)
                rw [← HW5.out]
                obtain ⟨y3, yf, cv, y5, yg⟩ := Y.out
                clear x0
                go_region
                go_wp2_with fail
                go_roundw
                case rel => exact HL.out.1.drew
                case measure => rw [show ∀ W : World, W.drew.cell? ⟨g, 1, none⟩ = W.cell? ⟨g, 1, none⟩ from fun _ => rfl, HL.out.2.cells.2.1, HR.out.cells.2.1]; simp [intOf]; omega
              · rw [addC_run _ _ _ hx0] at HN2 HT4
                have z0 := PcRow.new (w5.alloc (.cells #[.int .u8 c.toNat] 5)) ⟨0, 0, 0, [c]⟩
                rw [show (w5.alloc (.cells #[.int .u8 c.toNat] 5)).heap.size = w3.heap.size + 1 by rw [← hsz]; simp] at z0
                have oA : Only Nob w5 ((w5.alloc (.cells #[.int .u8 c.toNat] 5)).alloc (.cells #[.int .i64 0, .int .i64 0, .int .i64 0, .string ⟨#[c]⟩] 31)) := (Only.alloc _ _ _).nob (Only.alloc _ _ _)
                have hown6 := HW.out.2.2.other oA (fun _ _ h => h)
                rw [lq] at hown6
                have b0 := (Boxed.new w5 5 (.int .u8 c.toNat)).cell
                rw [hsz] at b0
                have cv := conv_one c (w5.alloc (.cells #[.int .u8 c.toNat] 5)) w3.heap.size b0
                have HA := Lib.hid (HW.out.2.1.also oA)
                have HR6 := Lib.hid (HW.out.1.other oA (fun h => h))
                clear oA b0 hsz HW
                clear hfz x3
                subst hw5
                go_wp2_with (first | (go_at_call 30; refine (CL.out _).mono ?_; rintro e w' ⟨rfl, rfl⟩) | (go_at_call 102; refine (IX.out _).mono ?_; rintro e w' ⟨rfl, rfl⟩) | (at_builtin; refine wpList_append_pc rfl _ _ rfl _ _ rfl hown6 _ _ rfl z0 (Nat.le_trans hpk2 (by omega)) ?_) | fail)
                intro v' w' ho' on' hb'
                have hk' : K + 1 ≤ s.length := hlt1
                have HZ := Lib.hid (show PiRel w s g v' w' ∧ Rd w' g s (K + 1) from by
                  have r7 := HR6.out.other on' (fun h => by have := HNew.out _ h; omega)
                  refine ⟨⟨K + 1, f, _, hk', ?_, HT4.out, hfu, ho', fun i hi => ?_, HN2.out, r7, HA.out.trans on' (fun i _ hi => .inr (HNew.out i hi))⟩, r7⟩
                  · have hpk3 := hpk2
                    simp at hpk3 ⊢
                    try omega
                  · rcases hb' i hi with h | h
                    · exact HNew.out i h
                    · have := hws.out; omega)
                clear ho' on' hb'
                go_wp2_with fail
                go_roundw
                case rel => exact HZ.out.1
                case measure => rw [HZ.out.2.cells.2.1, HR.out.cells.2.1]; simp [intOf]; omega

          · have hsp' : special (peekL s (k + 1)) = false := by simpa using hsp
            rw [if_neg hsp] at HN
            simp only at HN
            have hjx := idxS_no hsp'
            generalize peekL s (k + 1) = c at *
            have CL := Lib.hid (class_any c)
            have IX := Lib.hid (idx_special c)
            generalize cls c = kC at CL
            rw [hjx] at IX
            clear hjx
            by_cases hz : kC = 0
            · subst hz
              go_wp2_with (first | (go_at_call 30; refine (CL.out _).mono ?_; rintro e w' ⟨rfl, rfl⟩) | fail)
              refine (fail_any _ (k + 1) 12 _).mono ?_
              rintro e w9 ⟨rfl, rfl⟩
              exact ⟨rfl, PiPost.bad HN.out.symm (only_run HO3.out)⟩
            · go_wp2_with (first | (go_at_call 30; refine (CL.out _).mono ?_; rintro e w' ⟨rfl, rfl⟩) | (go_at_call 102; refine (IX.out _).mono ?_; rintro e w' ⟨rfl, rfl⟩) | fail)
              refine (fail_any _ (k + 1) 12 _).mono ?_
              rintro e w9 ⟨rfl, rfl⟩
              exact ⟨rfl, PiPost.bad HN.out.symm (only_run HO3.out)⟩

      · rw [if_neg h92] at HN
        obtain ⟨c0, c1, cf⟩ := HR1.out.cells
        have hpl : (peekL s k).toNat ≠ 92 := h92
        have h92' : ¬ ((peekL s k).toNat : Int) = 92 := by omega
        by_cases hz : cls (peekL s k) = 0
        · rw [if_pos (.inl hz)] at HN
          have CL := Lib.hid (class_any (peekL s k))
          rw [hz] at CL
          clear hz
          generalize (peekL s k).toNat = cN at *
          go_wp2_with (first | (go_at_call 30; refine (CL.out _).mono ?_; rintro e w' ⟨rfl, rfl⟩) | fail)
          refine (fail_any _ k 12 _).mono ?_
          rintro e w9 ⟨rfl, rfl⟩
          exact ⟨rfl, PiPost.bad HN.out.symm (only_run HO1.out)⟩
        by_cases hsp : special (peekL s k) = true
        · rw [if_pos (.inr hsp)] at HN
          have CL := Lib.hid (class_any (peekL s k))
          have IX := Lib.hid (idx_special (peekL s k))
          have hjx := idxS_yes hsp
          generalize cls (peekL s k) = kC at *
          generalize idxS (peekL s k) = jS at *
          clear hsp
          generalize (peekL s k).toNat = cN at *
          go_wp2_with (first | (go_at_call 30; refine (CL.out _).mono ?_; rintro e w' ⟨rfl, rfl⟩) | (go_at_call 102; refine (IX.out _).mono ?_; rintro e w' ⟨rfl, rfl⟩) | fail)
          refine (fail_any _ k 12 _).mono ?_
          rintro e w9 ⟨rfl, rfl⟩
          exact ⟨rfl, PiPost.bad HN.out.symm (only_run HO1.out)⟩
        · rw [if_neg (fun h => h.elim hz hsp)] at HN
          simp only at HN
          have hjx := idxS_no (show special (peekL s k) = false by simpa using hsp)
          have CL := Lib.hid (class_any (peekL s k))
          have IX := Lib.hid (idx_special (peekL s k))
          rw [hjx] at IX
          have hfu : s.length - (k + 1) ≤ f := by omega
          have HT3 := HT
          have HT4 := Lib.hid (text_addC p (peekL s k) k HT.out)
          have hpk2 := hpk
          have hkK : k < k + 1 := by omega
          have HN2 := HN
          have hlt1 := hlt
          have HR3 := HR1
          have HO3 := HO1
          have HOwn3 := HOwn1
          clear HN hf hsp hjx HT hpk hlt HR1 HO1 HOwn1 hpl h92
          generalize cls (peekL s k) = kC at *
          generalize peekL s k = c at *
          have h92 : ¬ ((c.toNat : Nat) : Int) = 92 := h92'
          clear h92'
          rename World => w3
          generalize hKk : k = K at *
          have hws := Lib.hid HO3.out.size
          have HW : Hid (Rd (w3.setCell ⟨g, 1, none⟩ (.int .i64 ((K : Int) + 1))) g s (K + 1) ∧ Only (Run g w.heap.size) w (w3.setCell ⟨g, 1, none⟩ (.int .i64 ((K : Int) + 1))) ∧ OwnP (w3.setCell ⟨g, 1, none⟩ (.int .i64 ((K : Int) + 1))) (.slice ao p.length cap) p) :=
            ⟨HR3.out.set (K + 1), HO3.out.put g 1 _ (.inl rfl), HOwn3.out.other (Only.setCell (S := Is g) w3 ⟨g, 1, none⟩ _ rfl) (fun i hi h => by have := HNew.out i hi; have h' : i = g := h; omega)⟩
          have HOwn4 := Lib.hid HOwn3.out
          clear HR3 HO3 HOwn3
          have hsz : (w3.setCell ⟨g, 1, none⟩ (.int .i64 ((K : Int) + 1))).heap.size = w3.heap.size := by simp
          rcases List.eq_nil_or_concat p with rfl | ⟨q, x, rfl⟩
          · rw [addC_nil] at HN2 HT4
            obtain ⟨w5, hw5⟩ : ∃ w5, w5 = w3.setCell ⟨g, 1, none⟩ (.int .i64 ((K : Int) + 1)) := ⟨_, rfl⟩
            rw [← hw5] at hsz HW
            have z0 := PcRow.new (w5.alloc (.cells #[.int .u8 c.toNat] 5)) ⟨0, 0, 0, [c]⟩
            rw [show (w5.alloc (.cells #[.int .u8 c.toNat] 5)).heap.size = w3.heap.size + 1 by rw [← hsz]; simp] at z0
            have oA : Only Nob w5 ((w5.alloc (.cells #[.int .u8 c.toNat] 5)).alloc (.cells #[.int .i64 0, .int .i64 0, .int .i64 0, .string ⟨#[c]⟩] 31)) := (Only.alloc _ _ _).nob (Only.alloc _ _ _)
            have hown6 := HW.out.2.2.other oA (fun _ _ h => h)
            have b0 := (Boxed.new w5 5 (.int .u8 c.toNat)).cell
            rw [hsz] at b0
            have cv := conv_one c (w5.alloc (.cells #[.int .u8 c.toNat] 5)) w3.heap.size b0
            have HA := Lib.hid (HW.out.2.1.also oA)
            have HR6 := Lib.hid (HW.out.1.other oA (fun h => h))
            clear oA b0 hsz HW
            subst hw5
            go_wp2_with (first | (go_at_call 30; refine (CL.out _).mono ?_; rintro e w' ⟨rfl, rfl⟩) | (go_at_call 102; refine (IX.out _).mono ?_; rintro e w' ⟨rfl, rfl⟩) | (at_builtin; refine wpList_append_pc rfl _ _ rfl _ _ rfl hown6 _ _ rfl z0 (Nat.le_trans hpk2 (by omega)) ?_) | fail)
            intro v' w' ho' on' hb'
            have hk' : K + 1 ≤ s.length := hlt1
            have HZ := Lib.hid (show PiRel w s g v' w' ∧ Rd w' g s (K + 1) from by
              have r7 := HR6.out.other on' (fun h => by have := HNew.out _ h; omega)
              refine ⟨⟨K + 1, f, _, hk', ?_, HT4.out, hfu, ho', fun i hi => ?_, HN2.out, r7, HA.out.trans on' (fun i _ hi => .inr (HNew.out i hi))⟩, r7⟩
              · have hpk3 := hpk2
                simp at hpk3 ⊢
                try omega
              · rcases hb' i hi with h | h
                · exact HNew.out i h
                · have := hws.out; omega)
            clear ho' on' hb'
            go_wp2_with fail
            go_roundw
            case rel => exact HZ.out.1
            case measure => rw [HZ.out.2.cells.2.1, HR.out.cells.2.1]; simp [intOf]; omega

          · rw [List.concat_eq_append] at *
            obtain ⟨gb, capq, hvq, -, hgb⟩ := own_form_pos HW.out.2.2 (by simp)
            obtain ⟨rfl, rfl⟩ := (by simpa using hvq : ao = some ⟨gb, 0, none⟩ ∧ cap = capq)
            obtain ⟨x0, x1, x2, x3⟩ := HOwn4.out.pcAt (i := q.length) (by simp)
            have hfz := HOwn4.out.frozen (q.length * 4 + 3)
            have hge : g ≠ gb := fun e => by have := HNew.out gb rfl; omega
            rw [List.getElem_concat_length rfl] at x0 x3
            clear x1 x2 hvq
            have hq60 : q.length < 60 := by simp at hpk2; omega
            have lq : (q ++ [x]).length = q.length + 1 := by simp
            have hi1 : IntKind.i64.wrap ((q.length : Int) + 1 - 1) = (q.length : Int) := by rw [IntWalk.i64_in _ (by omega)]; omega
            obtain ⟨w5, hw5⟩ : ∃ w5, w5 = w3.setCell ⟨g, 1, none⟩ (.int .i64 ((K : Int) + 1)) := ⟨_, rfl⟩
            rw [← hw5] at hsz HW
            by_cases hx0 : x.c = 0
            · rw [addC_lit _ _ _ hx0] at HN2 HT4
              have hown6 := HW.out.2.2
              rw [lq] at hown6
              have HW6 := Lib.hid hown6
              have b0 := (Boxed.new w5 5 (.int .u8 c.toNat)).cell
              rw [hsz] at b0
              have cv := conv_one c (w5.alloc (.cells #[.int .u8 c.toNat] 5)).drew w3.heap.size b0
              have htl : x.t.length ≤ K := HT3.out x (by simp)
              obtain ⟨X, hX⟩ : ∃ X : ByteArray, X = ⟨x.t.toArray⟩ := ⟨_, rfl⟩
              have hXs : X.size ≤ 60 := by rw [hX]; show x.t.length ≤ 60; omega
              have s1 : ∀ w, (Op.stringOp .add X ⟨#[c]⟩).run Tryd.prog w = .ok (.string (X ++ ⟨#[c]⟩)) w := fun w => run_string_add_sum w _ _ (by simp only [sz1]; omega)
              have y3 := (HW.out.2.2.pcAt (i := q.length) (by simp)).2.2.2
              rw [List.getElem_concat_length rfl, ← hX] at y3
              have yf := HW.out.2.2.frozen (q.length * 4 + 3)
              have HX := Lib.hid hX
              have hX' := hX.symm
              have HW5 := Lib.hid hw5
              clear hown6 b0 hX x3 hfz hw5
              have hownA := HW.out.2.2.other (Only.alloc Nob w5 (.cells #[.int .u8 c.toNat] 5)) (fun _ _ h => h)
              have y5 := (hownA.pcAt (i := q.length) (by simp)).2.2.2
              rw [List.getElem_concat_length rfl, hX'] at y5
              have Y := Lib.hid (And.intro y3 (And.intro yf (And.intro cv (And.intro y5 (hownA.frozen (q.length * 4 + 3))))))
              have hXc : (⟨(X.data.toList ++ [c]).toArray⟩ : ByteArray) = X ++ ⟨#[c]⟩ := str_eq (by simp [ByteArray.data_append])
              have hL := hownA.last (X.data.toList ++ [c])
              rw [hXc, lq] at hL
              have hXl : X.data.toList = x.t := by rw [HX.out]
              rw [hXl] at hL
              have hA : Only Nob w5 (w5.alloc (.cells #[.int .u8 c.toNat] 5)) := Only.alloc _ _ _
              have HL := Lib.hid (show PiRel w s g (.slice (some ⟨gb, 0, none⟩) (q.length + 1) cap) ((w5.alloc (.cells #[.int .u8 c.toNat] 5)).setCell ⟨gb, q.length * 4 + 3, none⟩ (.string (X ++ ⟨#[c]⟩))) ∧ Rd ((w5.alloc (.cells #[.int .u8 c.toNat] 5)).setCell ⟨gb, q.length * 4 + 3, none⟩ (.string (X ++ ⟨#[c]⟩))) g s (K + 1) from by
                have r8 : Rd ((w5.alloc (.cells #[.int .u8 c.toNat] 5)).setCell ⟨gb, q.length * 4 + 3, none⟩ (.string (X ++ ⟨#[c]⟩))) g s (K + 1) := (HW.out.1.other hA (fun h => h)).other (Only.setCell (S := Oth g) _ ⟨gb, q.length * 4 + 3, none⟩ _ (fun e => hge e.symm)) (fun h => h rfl)
                refine ⟨⟨K + 1, f, _, hlt1, ?_, HT4.out, hfu, hL, fun i hi => HNew.out i hi, HN2.out, r8, (HW.out.2.1.also hA).put gb _ _ (.inr (HNew.out gb rfl))⟩, r8⟩
                have hpk3 := hpk2
                simp at hpk3 ⊢
                try omega)
              clear hXc hL hXl hA
              clear y3 yf cv y5 hownA hX'
              have hi2 : (q.length : Int) < (q.length : Int) + 1 := by omega
              go_wp2_with (first | (go_at_call 30; refine (CL.out _).mono ?_; rintro e w' ⟨rfl, rfl⟩) | (go_at_call 102; refine (IX.out _).mono ?_; rintro e w' ⟨rfl, rfl⟩) | fail)
              rw [← HW5.out]
              obtain ⟨y3, yf, cv, y5, yg⟩ := Y.out
              clear x0
              go_region
              go_wp2_with fail
              go_roundw
              case rel => exact HL.out.1.drew
              case measure => rw [show ∀ W : World, W.drew.cell? ⟨g, 1, none⟩ = W.cell? ⟨g, 1, none⟩ from fun _ => rfl, HL.out.2.cells.2.1, HR.out.cells.2.1]; simp [intOf]; omega
            · rw [addC_run _ _ _ hx0] at HN2 HT4
              have z0 := PcRow.new (w5.alloc (.cells #[.int .u8 c.toNat] 5)) ⟨0, 0, 0, [c]⟩
              rw [show (w5.alloc (.cells #[.int .u8 c.toNat] 5)).heap.size = w3.heap.size + 1 by rw [← hsz]; simp] at z0
              have oA : Only Nob w5 ((w5.alloc (.cells #[.int .u8 c.toNat] 5)).alloc (.cells #[.int .i64 0, .int .i64 0, .int .i64 0, .string ⟨#[c]⟩] 31)) := (Only.alloc _ _ _).nob (Only.alloc _ _ _)
              have hown6 := HW.out.2.2.other oA (fun _ _ h => h)
              rw [lq] at hown6
              have b0 := (Boxed.new w5 5 (.int .u8 c.toNat)).cell
              rw [hsz] at b0
              have cv := conv_one c (w5.alloc (.cells #[.int .u8 c.toNat] 5)) w3.heap.size b0
              have HA := Lib.hid (HW.out.2.1.also oA)
              have HR6 := Lib.hid (HW.out.1.other oA (fun h => h))
              clear oA b0 hsz HW
              clear hfz x3
              subst hw5
              go_wp2_with (first | (go_at_call 30; refine (CL.out _).mono ?_; rintro e w' ⟨rfl, rfl⟩) | (go_at_call 102; refine (IX.out _).mono ?_; rintro e w' ⟨rfl, rfl⟩) | (at_builtin; refine wpList_append_pc rfl _ _ rfl _ _ rfl hown6 _ _ rfl z0 (Nat.le_trans hpk2 (by omega)) ?_) | fail)
              intro v' w' ho' on' hb'
              have hk' : K + 1 ≤ s.length := hlt1
              have HZ := Lib.hid (show PiRel w s g v' w' ∧ Rd w' g s (K + 1) from by
                have r7 := HR6.out.other on' (fun h => by have := HNew.out _ h; omega)
                refine ⟨⟨K + 1, f, _, hk', ?_, HT4.out, hfu, ho', fun i hi => ?_, HN2.out, r7, HA.out.trans on' (fun i _ hi => .inr (HNew.out i hi))⟩, r7⟩
                · have hpk3 := hpk2
                  simp at hpk3 ⊢
                  try omega
                · rcases hb' i hi with h | h
                  · exact HNew.out i h
                  · have := hws.out; omega)
              clear ho' on' hb'
              go_wp2_with fail
              go_roundw
              case rel => exact HZ.out.1
              case measure => rw [HZ.out.2.cells.2.1, HR.out.cells.2.1]; simp [intOf]; omega
    · have kk : ¬ (k : Int) < (s.length : Int) := by omega
      rw [piecesF_end _ _ hlt] at hn
      have HN := Lib.hid hn
      clear hn
      go_wp2_with fail
      go_region_held3 (fun w' => w'.cell? ⟨g, 0, none⟩ = some (.string ⟨s.toArray⟩) ∧ w'.cell? ⟨g, 1, none⟩ = some (.int .i64 (k : Int))) (exact ⟨c0, c1⟩) (fail)
      go_wp2
      go_ret
      unfold PiPost
      rw [← HN.out]
      exact ⟨only_run (HO.out.also (Only.drew _ _)), _, rfl, HOwn.out.other (Only.drew Nob _) (fun _ _ h => h), HNew.out⟩

end Go.Proofs.YtddjbfmohibgbaaDoor

/- The deferred function of Parse: it catches a mistake, or finds nothing. -/
namespace Go.Proofs.YtddjbfmohibgbaaDoor
open Go.RowKit

def misV (a e : Nat) : Value := .agg #[.int .i64 (a : Int), .int .i64 (e : Int)]

theorem ta_nil (w : World) : (Instr.typeAssert .nilIface 20 84 true).run Tryd.prog w = .ok (.tuple #[.agg #[.int .i64 0, .int .i64 0], .bool false]) w := by kernel_rfl
theorem ta_mis (a e : Nat) (w : World) : (Instr.typeAssert (.iface 84 (.agg #[.int .i64 (a : Int), .int .i64 (e : Int)])) 20 84 true).run Tryd.prog w = .ok (.tuple #[.agg #[.int .i64 (a : Int), .int .i64 (e : Int)], .bool true]) w := by kernel_rfl

set_option maxRecDepth 100000 in
set_option maxHeartbeats 1000000 in
theorem catch_idle (bp ba be : Nat) (w : World) :
    CallsD Tryd.prog 59 #[.pointer (some ⟨bp, 0, none⟩), .pointer (some ⟨ba, 0, none⟩), .pointer (some ⟨be, 0, none⟩)] .returning w fun e u' w' => e = .returned (.tuple #[]) ∧ u' = .returning ∧ Only Nob w w' := by
  refine callsD_of_wpS Tryd.func59 rfl fun c₀ cs hu => ?_
  have ta := ta_nil
  simp only [Tryd.ntmps59, List.size_toArray, List.length_cons, List.length_nil, Nat.reduceAdd, Nat.reduceSub, Array.replicate_succ, Array.replicate_zero, List.push_toArray, List.append_toArray, List.nil_append, List.cons_append]
  apply wpS_seq
  apply wpS_region
  simp [wpOpsS, go_sem, recoverD, hu, ta, Exit.thenS]
  refine wpS_of_wp ?_
  have oA : Only Nob w (w.alloc (.cells #[.int .i64 0, .int .i64 0] 84)) := Only.alloc _ _ _
  go_wp2
  refine ⟨rfl, .returning, ?_, .tuple #[], ?_, rfl, rfl, oA⟩
  · cases c₀
    simp only at hu
    subst hu
    rfl
  · exact results_none rfl _ _ _

/-- The world in which a mistake is unpacked. -/
def misW (w : World) (a e : Nat) : World := (w.alloc (.cells #[.int .i64 (a : Int), .int .i64 (e : Int)] 84))

set_option maxRecDepth 100000 in
set_option maxHeartbeats 2000000 in
theorem catch_mis (bp ba be a e : Nat) (v0 v1 v2 : Value) (older : List PanicEntry) (w : World) (h0 : Boxed w bp 23 v0) (h1 : Boxed w ba 3 v1) (h2 : Boxed w be 27 v2) (n1 : bp ≠ ba) (n2 : bp ≠ be) (n3 : ba ≠ be) :
    CallsD Tryd.prog 59 #[.pointer (some ⟨bp, 0, none⟩), .pointer (some ⟨ba, 0, none⟩), .pointer (some ⟨be, 0, none⟩)] (.panicking ({ v := .iface 84 (.agg #[.int .i64 (a : Int), .int .i64 (e : Int)]), recovered := false } :: older)) w fun en u' w' =>
      en = .returned (.tuple #[]) ∧ u' = .panicking ({ v := .iface 84 (.agg #[.int .i64 (a : Int), .int .i64 (e : Int)]), recovered := true } :: older) ∧
      Boxed w' bp 23 (.slice none 0 0) ∧ Boxed w' ba 3 (.int .i64 (a : Int)) ∧ Boxed w' be 27 (.int .i64 (e : Int)) ∧ Only (fun i => i = bp ∨ i = ba ∨ i = be) w w' := by
  refine callsD_of_wpS Tryd.func59 rfl fun c₀ cs hu => ?_
  have ta := ta_mis a e
  simp only [Tryd.ntmps59, List.size_toArray, List.length_cons, List.length_nil, Nat.reduceAdd, Nat.reduceSub, Array.replicate_succ, Array.replicate_zero, List.push_toArray, List.append_toArray, List.nil_append, List.cons_append]
  apply wpS_seq
  apply wpS_region
  simp [wpOpsS, go_sem, recoverD, hu, ta, Exit.thenS]
  refine wpS_of_wp ?_
  have oA : Only Nob w (w.alloc (.cells #[.int .i64 (a : Int), .int .i64 (e : Int)] 84)) := Only.alloc _ _ _
  have k0 := h0.alloc (.cells #[.int .i64 (a : Int), .int .i64 (e : Int)] 84)
  have k1 := h1.alloc (.cells #[.int .i64 (a : Int), .int .i64 (e : Int)] 84)
  have k2 := h2.alloc (.cells #[.int .i64 (a : Int), .int .i64 (e : Int)] 84)
  have m0 : (w.alloc (.cells #[.int .i64 (a : Int), .int .i64 (e : Int)] 84)).cell? ⟨w.heap.size, 0, none⟩ = some (.int .i64 (a : Int)) := by simp
  have m1 : (w.alloc (.cells #[.int .i64 (a : Int), .int .i64 (e : Int)] 84)).cell? ⟨w.heap.size, 1, none⟩ = some (.int .i64 (e : Int)) := by simp
  have p0 : bp ≠ w.heap.size := by have := h0.lt; omega
  have p1 : ba ≠ w.heap.size := by have := h1.lt; omega
  have p2 : be ≠ w.heap.size := by have := h2.lt; omega
  generalize w.alloc (.cells #[.int .i64 (a : Int), .int .i64 (e : Int)] 84) = w1 at *
  generalize w.heap.size = bm at *
  have K := Lib.hid (And.intro k0 (And.intro k1 k2))
  have c0 := k0.cell
  have c1 := k1.cell
  have c2 := k2.cell
  have f0 := k0.frozen
  have f1 := k1.frozen
  have f2 := k2.frozen
  clear k0 k1 k2 h0 h1 h2 ta
  go_wp2_with fail
  go_region
  go_wp2
  obtain ⟨k0, k1, k2⟩ := K.out
  have bx : ∀ {W W' : World} {B : Nat} {t : TypeId} {v : Value}, Boxed W B t v → Only (Oth B) W W' → Boxed W' B t v := fun h o => (o.block _ h.lt (fun h => h rfl)).trans h
  have st : ∀ (W : World) (B C : Nat) (v : Value), C ≠ B → Only (Oth B) W (W.setCell ⟨C, 0, none⟩ v) := fun W B C v h => Only.setCell (S := Oth B) W ⟨C, 0, none⟩ v h
  refine ⟨rfl, _, rfl, .tuple #[], results_none rfl _ _ _, rfl, rfl, ?_, ?_, ?_, ?_⟩
  · exact bx (bx (k0.set (.slice none 0 0)) (st _ _ _ (.int .i64 (a : Int)) n1.symm)) ((st _ _ _ (.int .i64 (e : Int)) n2.symm).trans (Only.drew _ _) (fun _ _ h => h))
  · exact bx ((bx k1 (st _ _ bp (.slice none 0 0) n1)).set (.int .i64 (a : Int))) ((st _ _ _ (.int .i64 (e : Int)) n3.symm).trans (Only.drew _ _) (fun _ _ h => h))
  · exact (bx (bx k2 (st _ _ bp (.slice none 0 0) n2)) (st _ _ ba (.int .i64 (a : Int)) n3)).set (.int .i64 (e : Int))
  · have h := ((((oA.mono (T := fun i => i = bp ∨ i = ba ∨ i = be) (fun _ _ h => h.elim)).put bp 0 (.slice none 0 0) (.inl rfl)).put ba 0 (.int .i64 (a : Int)) (.inr (.inl rfl))).put be 0 (.int .i64 (e : Int)) (.inr (.inr rfl)))
    exact h.also (Only.drew Nob _)

end Go.Proofs.YtddjbfmohibgbaaDoor

/- Parse: the program's function. -/
namespace Go.Proofs.YtddjbfmohibgbaaDoor
open Go.RowKit

/-- What Parse leaves. -/
def PaPost (R : PR (List Pc)) (w : World) (e : Ending) (w' : World) : Prop :=
  Only Nob w w' ∧ match R with
    | .ok p => ∃ v, e = .returned (.tuple #[v, .int .i64 0, .int .i64 0]) ∧ OwnP w' v p ∧ (∀ k, Blk v k → w.heap.size ≤ k)
    | .error (a, x) => e = .returned (.tuple #[.slice none 0 0, .int .i64 (a : Int), .int .i64 (x : Int)])

theorem res19 (tmps : Array Value) (w : World) (b0 b1 b2 : Nat) (v0 v1 v2 : Value) (t0 : tmps.getD 2 undef = .pointer (some ⟨b0, 0, none⟩)) (t1 : tmps.getD 3 undef = .pointer (some ⟨b1, 0, none⟩)) (t2 : tmps.getD 4 undef = .pointer (some ⟨b2, 0, none⟩))
    (h0 : Boxed w b0 23 v0) (h1 : Boxed w b1 3 v1) (h2 : Boxed w b2 27 v2) : (results Tryd.f19 tmps).run Tryd.prog w = .ok (.tuple #[v0, v1, v2]) w := by
  have c0 := h0.cell
  have c1 := h1.cell
  have c2 := h2.cell
  simp only [results, show Tryd.f19.results = #[.cell 2 23, .cell 3 3, .cell 4 27] from rfl]
  have s0 : tmps[2]?.getD undef = .pointer (some ⟨b0, 0, none⟩) := by simpa using t0
  have s1 : tmps[3]?.getD undef = .pointer (some ⟨b1, 0, none⟩) := by simpa using t1
  have s2 : tmps[4]?.getD undef = .pointer (some ⟨b2, 0, none⟩) := by simpa using t2
  simp [go_sem, s0, s1, s2, c0, c1, c2]

/-- The world in which the reading begins; e: what stands in the error's variable. -/
def paW3 (w : World) (e : Int) : World := ((w.alloc (.cells #[.slice none 0 0] 23)).alloc (.cells #[.int .i64 0] 3)).alloc (.cells #[.int .i64 e] 27)
def paW (w : World) (s : List UInt8) : World := (paW3 w 0).alloc (.cells #[.string ⟨s.toArray⟩, .int .i64 0] 88)

theorem paW3_at (w : World) (e : Int) : (paW3 w e).heap.size = w.heap.size + 1 + 1 + 1 ∧ Only Nob w (paW3 w e) ∧ Boxed (paW3 w e) w.heap.size 23 (.slice none 0 0) ∧ Boxed (paW3 w e) (w.heap.size + 1) 3 (.int .i64 0) ∧ Boxed (paW3 w e) (w.heap.size + 1 + 1) 27 (.int .i64 e) := by
  unfold paW3
  refine ⟨by simp, ((Only.alloc _ _ _).nob (Only.alloc _ _ _)).nob (Only.alloc _ _ _), ((Boxed.new w 23 (.slice none 0 0)).alloc _).alloc _, ?_, ?_⟩
  · generalize hA : w.alloc (.cells #[.slice none 0 0] 23) = wA
    have hz : wA.heap.size = w.heap.size + 1 := by rw [← hA]; simp
    rw [← hz]
    exact (Boxed.new wA 3 (.int .i64 0)).alloc _
  · generalize hA : (w.alloc (.cells #[.slice none 0 0] 23)).alloc (.cells #[.int .i64 0] 3) = wA
    have hz : wA.heap.size = w.heap.size + 1 + 1 := by rw [← hA]; simp
    rw [← hz]
    exact Boxed.new wA 27 (.int .i64 e)

theorem paW_at (w : World) (s : List UInt8) : Only Nob w (paW w s) ∧ Boxed (paW w s) w.heap.size 23 (.slice none 0 0) ∧ Boxed (paW w s) (w.heap.size + 1) 3 (.int .i64 0) ∧ Boxed (paW w s) (w.heap.size + 1 + 1) 27 (.int .i64 0) ∧ Rd (paW w s) (w.heap.size + 1 + 1 + 1) s 0 := by
  obtain ⟨hz, o, h0, h1, h2⟩ := paW3_at w 0
  unfold paW
  refine ⟨o.nob (Only.alloc _ _ _), h0.alloc _, h1.alloc _, h2.alloc _, ?_⟩
  rw [← hz]
  exact heap_alloc_new _ _

theorem bx_only {S : Nat → Prop} {W W' : World} {B : Nat} {t : TypeId} {v : Value} (h : Boxed W B t v) (o : Only S W W') (hn : ¬ S B) : Boxed W' B t v := (o.block _ h.lt hn).trans h

set_option maxRecDepth 100000 in
set_option maxHeartbeats 2000000 in
theorem parse_any (s : List UInt8) (w : World) (_hs : s.length ≤ 100000) : Calls Tryd.prog 19 #[.string ⟨s.toArray⟩] w (PaPost (parseL s) w) := by
  have hmf : ∀ (fn : Fn) (first cap : Array Value) (w : World), (Instr.makeFunc fn first cap).run Tryd.prog w = .ok (.func fn first cap) w := fun _ _ _ _ => rfl
  by_cases h60 : 60 < s.length
  · have h60' : (s.length : Int) > 60 := by omega
    unfold parseL
    rw [if_pos h60]
    go_enter_defers Tryd.func19, Tryd.ntmps19
    go_wp2
    obtain ⟨-, o, h0, h1, h2⟩ := paW3_at w 2
    exact ⟨_, res19 _ _ _ _ _ _ _ _ rfl rfl rfl h0 h1 h2, o, rfl⟩
  · have h60' : ¬ (s.length : Int) > 60 := by omega
    unfold parseL
    rw [if_neg h60]
    obtain ⟨oP, h0, h1, h2, hr⟩ := paW_at w s
    have PI := Lib.hid (pieces_any (w.heap.size + 1 + 1 + 1) s (paW w s) hr (by omega))
    have HP := Lib.hid (And.intro oP (And.intro h0 (And.intro h1 h2)))
    have hlt := hr.lt
    have HLT := Lib.hid hlt
    clear oP h0 h1 h2 hr hlt
    generalize piecesF s s.length 0 [] = R at PI ⊢
    go_enter_defers Tryd.func19, Tryd.ntmps19
    go_wp2_with fail
    refine PI.out.mono ?_
    obtain ⟨oP, h0, h1, h2⟩ := HP.out
    cases R with
    | error ae =>
      obtain ⟨a, x⟩ := ae
      rintro e w5 ⟨o5, rfl⟩
      have k0 := bx_only h0 o5 (fun h => by have h' : w.heap.size = w.heap.size + 1 + 1 + 1 := h; omega)
      have k1 := bx_only h1 o5 (fun h => by have h' : w.heap.size + 1 = w.heap.size + 1 + 1 + 1 := h; omega)
      have k2 := bx_only h2 o5 (fun h => by have h' : w.heap.size + 1 + 1 = w.heap.size + 1 + 1 + 1 := h; omega)
      refine leaves_cons (f := 59) (args := #[.pointer (some ⟨w.heap.size, 0, none⟩), .pointer (some ⟨w.heap.size + 1, 0, none⟩), .pointer (some ⟨w.heap.size + 1 + 1, 0, none⟩)]) (by simp) (by simp [go_sem]) ?_
      refine (catch_mis _ _ _ a x _ _ _ [] w5 k0 k1 k2 (by omega) (by omega) (by omega)).mono ?_
      rintro e u' w6 ⟨rfl, rfl, m0, m1, m2, o6⟩
      refine ⟨_, res19 _ _ _ _ _ _ _ _ rfl rfl rfl m0 m1 m2, ?_, rfl⟩
      have o56 : Only (fun i => w.heap.size ≤ i) w w6 := ((oP.mono (fun _ _ h => h.elim)).trans o5 (fun i _ h => by have h' : i = w.heap.size + 1 + 1 + 1 := h; omega)).trans o6 (fun i _ h => by have h' : i = w.heap.size ∨ i = w.heap.size + 1 ∨ i = w.heap.size + 1 + 1 := h; omega)
      exact o56.mono (fun i hi h => absurd hi (Nat.not_lt.2 h))
    | ok p =>
      rintro e w5 ⟨o5, v, rfl, hown, hnew⟩
      have k0 := bx_only h0 o5 (fun h => by have h' : w.heap.size = w.heap.size + 1 + 1 + 1 := h; omega)
      have k1 := bx_only h1 o5 (fun h => by have h' : w.heap.size + 1 = w.heap.size + 1 + 1 + 1 := h; omega)
      have k2 := bx_only h2 o5 (fun h => by have h' : w.heap.size + 1 + 1 = w.heap.size + 1 + 1 + 1 := h; omega)
      obtain ⟨ao, cap, rfl⟩ := hown.form
      have c0 := k0.cell
      have c1 := k1.cell
      have c2 := k2.cell
      have f0 := k0.frozen
      have f1 := k1.frozen
      have f2 := k2.frozen
      have HK := Lib.hid (And.intro k0 (And.intro k1 k2))
      have HO := Lib.hid o5
      have HV := Lib.hid (And.intro hown hnew)
      clear oP h0 h1 h2 PI k0 k1 k2 o5 hown hnew
      generalize hb : w.heap.size = b at *
      have HB := Lib.hid hb
      clear hb
      go_wp2
      obtain ⟨k0, k1, k2⟩ := HK.out
      refine leaves_cons (f := 59) (args := #[.pointer (some ⟨b, 0, none⟩), .pointer (some ⟨b + 1, 0, none⟩), .pointer (some ⟨b + 1 + 1, 0, none⟩)]) (by simp) (by simp [go_sem]) ?_
      refine (catch_idle _ _ _ _).mono ?_
      rintro e u' w6 ⟨rfl, rfl, o6⟩
      have st : ∀ (W : World) (B C : Nat) (v : Value), C ≠ B → Only (Oth B) W (W.setCell ⟨C, 0, none⟩ v) := fun W B C v h => Only.setCell (S := Oth B) W ⟨C, 0, none⟩ v h
      have m0 := bx_only (bx_only (bx_only (k0.set (.slice ao p.length cap)) (st _ _ (b + 1) (.int .i64 0) (by omega)) (fun h => h rfl)) (st _ _ (b + 1 + 1) (.int .i64 0) (by omega)) (fun h => h rfl)) o6 (fun h => h)
      have m1 := bx_only (bx_only ((bx_only k1 (st _ _ b (.slice ao p.length cap) (by omega)) (fun h => h rfl)).set (.int .i64 0)) (st _ _ (b + 1 + 1) (.int .i64 0) (by omega)) (fun h => h rfl)) o6 (fun h => h)
      have m2 := bx_only ((bx_only (bx_only k2 (st _ _ b (.slice ao p.length cap) (by omega)) (fun h => h rfl)) (st _ _ (b + 1) (.int .i64 0) (by omega)) (fun h => h rfl)).set (.int .i64 0)) o6 (fun h => h)
      have oS : Only (fun i => b ≤ i ∧ i ≤ b + 1 + 1) w5 (((w5.setCell ⟨b, 0, none⟩ (.slice ao p.length cap)).setCell ⟨b + 1, 0, none⟩ (.int .i64 0)).setCell ⟨b + 1 + 1, 0, none⟩ (.int .i64 0)) := (((Only.refl _ _).put b 0 _ ⟨by omega, by omega⟩).put (b + 1) 0 _ ⟨by omega, by omega⟩).put (b + 1 + 1) 0 _ ⟨by omega, by omega⟩
      have hl := HLT.out
      have oP := HP.out.1
      have hb := HB.out
      refine ⟨_, res19 _ _ _ _ _ _ _ _ rfl rfl rfl m0 m1 m2, ?_, _, rfl, (HV.out.1.other oS (fun k hk h => by have := HV.out.2 k hk; omega)).other o6 (fun _ _ h => h), fun k hk => by have := HV.out.2 k hk; omega⟩
      have o56 : Only (fun i => w.heap.size ≤ i) w w6 := (((oP.mono (fun _ _ h => h.elim)).trans HO.out (fun i _ h => by have h' : i = b + 1 + 1 + 1 := h; omega)).trans oS (fun i _ h => by have h' : b ≤ i ∧ _ := h; omega)).trans o6 (fun i _ h => h.elim)
      exact o56.mono (fun i hi h => absurd hi (Nat.not_lt.2 h))

end Go.Proofs.YtddjbfmohibgbaaDoor
