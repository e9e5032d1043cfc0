/- The walk of JournalRaw. -/
import Derived.Test.YtdpebdghhgojaaaJSanity
import Derived.Test.YtdpebdghhgojaaaJOpensR
namespace Go.Proofs.Ytdpebdghhgojaaa
open Go.RowKit

theorem wpList_append_want {P : Program} (w : World) {ops : Array Oper} {rest : List Oper} {o : Oper} {a : Act} {Q : Exit → Act → World → Prop} (hw : Region.wanted o (yielded ops a.tmps) = true) (s x : Operand) (t tn : TypeId)
    (ho : o.op = .call { callee := .builtin .append, args := #[s, x], argTypes := #[t, tn] }) (vs vx : Value) (hs : a.eval s = vs) (hx : a.eval x = vx)
    (v' : Value) (w' : World) (hr : (Builtin.append_ #[t, tn] o.type #[vs, vx]).run P w = .ok v' w') (h : wpList P ops Q rest (a.put o.dst v') w') : wpList P ops Q (o :: rest) a w :=
  BigFrame.wpList_want hw fun _ hK => Lib.wp_append_run w s x t tn ho vs vx hs hx v' w' hr (hK _ _ h)

theorem raw_state (o : Nat) (t : List UInt8) (ho : o < 100) (ht : t.length ≤ 300) : (DS.new.wr o t).fail = false ∧ (DS.new.wr o t).calls ≤ 1 ∧ (DS.new.wr o t).now.length ≤ 400 := by
  have hb : ¬ badW (o : Int) t := by unfold badW; omega
  have hoff : ¬ (DS.new.off = true) := by decide
  unfold DS.wr
  rw [if_neg (by rintro (h | h); exact hb h; exact hoff h)]
  refine ⟨rfl, Nat.le_refl _, ?_⟩
  show (put [] (o : Int).toNat t).length ≤ 400
  rw [length_put]
  simp
  omega

theorem size_list (s : ByteArray) : s.data.toList.length = s.size := by simp

theorem raw_bytes {c : List UInt8} {L : List (List UInt8)} (h : Holds c L) (hc : c.length ≤ 400) : bytesOf L ≤ 10000 := by
  have h1 := holds_len h
  have h2 := enc_count L
  unfold bytesOf
  omega

set_option maxRecDepth 100000 in
set_option maxHeartbeats 4000000 in
theorem raw_walk (s : ByteArray) (off : Nat) (rec : ByteArray) (w : World) (hs : s.size ≤ 9223372036854775807) (ho : off < 256) (hr : rec.size ≤ 9223372036854775807) :
    Calls Try.prog 16 #[.string s, .int .u8 off, .string rec] w fun e w' => e = .returned (.bool true) ∧ Only Nob w w' := by
  obtain ⟨o, hm0⟩ : ∃ o : Nat, (off : Int) % 100 = o := ⟨off % 100, by omega⟩
  have ho1 : o < 100 := by omega
  go_enter Try.func16, Try.ntmps16
  go_wp2_with fail
  refine (jsanity_any _).mono ?_
  rintro e w0 ⟨rfl, o0⟩
  go_wp2_with fail
  refine (new_any _).mono ?_
  rintro e w1 ⟨b, rfl, -, d1, o1, -⟩
  by_cases hsz : s.size ≤ 300
  case' pos =>
    go_wp2_with fail
    refine (write_all _ b o (s) _ _ d1 (by decide) (rng_nat (by omega)) (by omega)).mono ?_
    rintro e w2 ⟨rfl, d2, o2⟩
    have hst := raw_state o (s).data.toList ho1 (by rw [size_list]; omega)
    generalize DS.new.wr o (s).data.toList = dd at *
    generalize DS.new.wrE o (s).data.toList = E at *
  case' neg =>
    go_wp2_with fail
    refine (write_all _ b o (s.extract 0 300) _ _ d1 (by decide) (rng_nat (by omega)) (by rw [ByteArray.size_extract]; omega)).mono ?_
    rintro e w2 ⟨rfl, d2, o2⟩
    have hst := raw_state o (s.extract 0 300).data.toList ho1 (by rw [toList_extract, List.length_take]; omega)
    generalize DS.new.wr o (s.extract 0 300).data.toList = dd at *
    generalize DS.new.wrE o (s.extract 0 300).data.toList = E at *
  all_goals
    obtain ⟨st1, st2, st3⟩ := hst
    have n1 := (After.nob w0).grow (b := w1) (Nat.le_refl _)
    have q2 := n1.only o1 o2
    have n2 := n1.grow (b := w2) o1.size
    clear d1 o1 n1 o2 hsz
    go_wp2_with fail
    refine (sync_on _ b dd _ d2 (by unfold DS.off; rw [st1]; rfl) (by omega)).mono ?_
    rintro e w3 ⟨rfl, d3, o3⟩
    have q3 := n2.only q2 o3
    have n3 := n2.grow (b := w3) q2.size
    have s3 : dd.synced.fail = false := st1
    have s3c : dd.synced.calls ≤ 2 := by show dd.calls + 1 ≤ 2; omega
    have s3n : dd.synced.now.length ≤ 400 := st3
    generalize dd.synced = d' at *
    clear d2 o3 n2 q2 st1 st2 st3
    go_wp2_with fail
    refine (open_raw _ b d' _ d3 (by omega) (by unfold DS.off; rw [s3]; rfl)).mono ?_
    rintro e w4 (⟨rfl, k4, o4⟩ | ⟨L, hL, jb, vl, fp', rfl, p4, j4, r4, f4, k4, f4', o4⟩)
  case inl =>
    go_wp2_with fail
    go_ret
    exact ⟨by simp, o0.trans (n3.only q3 o4) (fun _ _ h => h)⟩
  case inl =>
    go_wp2_with fail
    go_ret
    exact ⟨by simp, o0.trans (n3.only q3 o4) (fun _ _ h => h)⟩
  all_goals
    have hb4 := raw_bytes hL s3n
    obtain ⟨ao, cap, rfl, _⟩ := own_form r4
    have a4 : JAt w0 w4 fp' jb b (jsOf L) d'.synced := JAt.opened n3 q3 j4 p4 k4 f4' o4
    have ap4 : Apart w4 fp' jb (.slice ao L.length cap) L := ⟨r4, fun k hk hx => by
      obtain ⟨_, h2, h3⟩ := f4 k hk
      rcases hx with hx | hx
      · exact h3 hx
      · exact h2 hx⟩
    have l4 : Clean d'.synced L := (clean_synced hL).1
    have c4 : d'.synced.calls ≤ 3 := by show d'.calls + 1 ≤ 3; omega
    have e4 : d'.synced.fail = false := s3
    have hLl : L.length ≤ 10000 := by have := enc_count L; unfold bytesOf at hb4; omega
    clear j4 r4 f4 k4 f4' o4 p4 q3 n3 d3 hL s3n
    generalize d'.synced = d4 at *
    go_wp2_with fail
    refine (many_any jb b _ _ a4.jh).mono ?_
    rintro e w' ⟨rfl, rfl⟩
    go_wp2_with fail
    refine (short_any rec _ hr).mono ?_
    rintro e w' ⟨rfl, rfl⟩
    obtain ⟨r, hrr⟩ : ∃ r, r = rec.data.toList.take 200 := ⟨_, rfl⟩
    have hrl : r.length ≤ 200 := by rw [hrr, List.length_take]; omega
    rw [← hrr]
    have HR := Lib.hid hrr
    clear hrr
    go_wp2_with fail
    refine (jappend_good _ jb b d4 L r _ a4.jh a4.dk a4.nj l4 (by omega) (by omega) e4).mono ?_
    rintro e w5 ⟨d5, rfl, j5, k5, l5, g5, o5⟩
    have a5 := a4.app j5 k5 o5
    have ap5 := ap4.app o5
    have c5 : d5.calls ≤ 7 := by have := g5.calls; omega
    clear a4 ap4 j5 k5 o5 g5 l4
    go_wp2_with fail
    refine (crash_any _ b d5 _ [] _ a5.dk (ints_nil _)).mono ?_
    rintro e w6 ⟨c, rfl, pc, d6, o6⟩
    have l6 := l5.crashed []
    go_wp2_with fail
    refine (opened_any _ c _ _ _ d6 (by show 0 < 100000; omega) rfl l6.holds).mono ?_
    rintro e w7 ⟨jc, ao7, cap7, fp7, rfl, p7, p7', j7, r7, f7, d7, f7', n7, o7⟩
    have o57 := ((After.nob w5).grow (b := w6) (Nat.le_refl _)).only o6 o7
    have a7 := a5.quiet o57
    have s7 := (ap5.quiet o57).1
    clear a5 ap5 o57 o6 o7 d6 d7 j7 f7' n7 p7 p7' pc f7 l5 l6
    have oW := a7.on
    clear a7
    have hbs := Try.bs64
    obtain ⟨v8, w8, hrun, hrow, oA, hfr⟩ := run_append_srow (w7.alloc (.cells #[] 9)) (.slice (some ⟨w7.heap.size, 0, none⟩) 0 0) (.slice ao L.length cap) [] L (Srow.empty w7) (s7.other (Only.alloc Nob _ _) (fun _ _ h => h)) (by simp; omega)
    rw [List.nil_append] at hrow
    obtain ⟨ao8, cap8, rfl, _⟩ := own_form hrow
    go_wp2_with (at_builtin; refine wpList_append_want _ rfl (.tmp 81) (.tmp 82) 64 64 rfl _ _ rfl rfl _ _ hrun ?_)
    have o78 : Only Nob w7 w8 := (Only.alloc Nob w7 _).trans oA (fun k hk hx => by
      have : w7.heap.size = k := by simpa [Blk, Value.ownBlock] using hx
      omega)
    refine (short_any rec _ hr).mono ?_
    rintro e w' ⟨rfl, rfl⟩
    rw [← HR.out]
    unfold SV
    obtain ⟨g9, cap9, w9, hrun9, hrow9, oA9, hfr9⟩ := run_append_str (w8.alloc (.cells #[.string ⟨r.toArray⟩] 9)) 64 _ L (hrow.other (Only.alloc Nob _ _) (fun _ _ h => h)) (by omega) w8.heap.size r (by rw [World.cell?_alloc_new]; rfl)
    have o79 : Only Nob w7 w9 := (o78.trans (Only.alloc Nob w8 (.cells #[.string ⟨r.toArray⟩] 9)) (fun _ _ h => h)).trans oA9 (fun k hk hx => by
      have z := o78.size
      rcases hfr k hx with h | h
      · have : w7.heap.size = k := by simpa [Blk, Value.ownBlock] using h
        omega
      · simp at h; omega)
    have s9 : Strs w9 (.slice ao7 (L ++ [r]).length cap7) (L ++ [r]) := (r7.other o79 (fun _ _ h => h)).strs
    rw [show (L ++ [r]).length = L.length + 1 by simp] at s9
    have hSame := Lib.hid (same_yes _ _ (L ++ [r]) w9 s9 hrow9.strs (by simp; omega))
    clear hrun oA hfr o78 hfr9 oA9 s9 hrow
    go_wp2_with (at_builtin; refine wpList_append_want _ rfl (.tmp 83) (.tmp 86) 64 64 rfl _ _ rfl rfl _ _ hrun9 ?_)
    ((with_reducible refine hSame.out.mono ?_); rintro e w10 ⟨rfl, o10⟩)
    go_wp2_with fail
    go_ret
    exact ⟨by simp, o0.trans (oW.trans (o79.trans o10 (fun _ _ h => h)) (fun _ _ h => h)) (fun _ _ h => h)⟩

theorem raw_walkI (s : ByteArray) (off : Int) (rec : ByteArray) (w : World) (hs : s.size ≤ 9223372036854775807) (ho : 0 ≤ off ∧ off ≤ 255) (hr : rec.size ≤ 9223372036854775807) :
    Calls Try.prog 16 #[.string s, .int .u8 off, .string rec] w fun e w' => e = .returned (.bool true) ∧ Only Nob w w' := by
  obtain ⟨a, rfl⟩ := Int.eq_ofNat_of_zero_le ho.1
  exact raw_walk s a rec w hs (by omega) hr
end Go.Proofs.Ytdpebdghhgojaaa
