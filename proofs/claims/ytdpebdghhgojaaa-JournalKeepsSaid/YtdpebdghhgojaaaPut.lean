/- The walk of disk.put: it writes s at off, in place or in a new block. -/
import Derived.Test.YtdpebdghhgojaaaProg
import Derived.Test.YtdpebdghhgojaaaBase
import Derived.Test.YtdpebdghhgojaaaZeros
import Derived.WalkLawsBesides
import Derived.WalkSpells
import Derived.Lib.Hide
namespace Go.Proofs.Ytdpebdghhgojaaa
open Go.RowKit

theorem Try.info5 : (Try.prog.info? 5).map (fun i => (i.zero, i.size, i.bytes)) = some (some (.int .u8 0), 1, 1) := by kernel_rfl
theorem Try.size5 : (Try.prog.info? 5).map (·.size) = some 1 := by kernel_rfl

def PutPost (v : Value) (l : List UInt8) (w : World) (e : Ending) (w' : World) : Prop :=
  ∃ v', e = .returned v' ∧ Row w' v' l ∧ Only (Blk v) w w' ∧ ∀ k, Blk v' k → Blk v k ∨ w.heap.size ≤ k

set_option maxRecDepth 100000 in
theorem put_fits (ao : Option Addr) (capc off g cap : Nat) (c s : List UInt8) (w : World) (hc : Row w (.slice ao c.length capc) c) (hs : Src w (.slice (some ⟨g, 0, none⟩) s.length cap) s)
   (h : off + s.length ≤ c.length) (hb : c.length ≤ 16777216) (hcap : c.length ≤ capc) :
    Calls Try.prog 52 #[.slice ao c.length capc, .int .i64 off, .slice (some ⟨g, 0, none⟩) s.length cap] w (PutPost (.slice ao c.length capc) (put c off s) w) := by
  by_cases hco : capc = off
  · subst hco
    go_enter Try.func52, Try.ntmps52
    go_wp2_with ((refine wpList_copy_put rfl (.tmp 22) (.tmp 23) 56 56 rfl Try.underlying56 Try.size5 ao capc c hc capc _ _ _ rfl ?hdl _ _ _ s rfl ?hsl hs h ?hdp ?hh))
    case hh =>
      intro w' h1 h2
      go_wp2
      go_ret
      exact ⟨_, rfl, h1, h2, fun k hk => .inl hk⟩
    all_goals first | omega | rfl | (intro; omega) | (intro; rfl) | (intro; simp [addr_add0]; done)
  · go_enter Try.func52, Try.ntmps52
    go_wp2_with ((refine wpList_copy_put rfl (.tmp 22) (.tmp 23) 56 56 rfl Try.underlying56 Try.size5 ao capc c hc off _ _ _ rfl ?hdlB _ _ _ s rfl ?hslB hs h ?hdpB ?hhB))
    case hhB =>
      intro w' h1 h2
      go_wp2
      go_ret
      exact ⟨_, rfl, h1, h2, fun k hk => .inl hk⟩
    all_goals first | omega | rfl | (intro; omega) | (intro; rfl) | (intro; simp [addr_add0]; done)

theorem put_pad (c : List UInt8) (off : Nat) (s : List UInt8) (m : Nat) (hm : m = off + s.length - c.length) (_h : c.length < off + s.length) : put (c ++ List.replicate m 0) off s = put c off s := by
  subst hm
  simp [put, show off + s.length - (c.length + (off + s.length - c.length)) = 0 by omega]

set_option maxRecDepth 100000 in
theorem put_grows (ao : Option Addr) (capc off g cap : Nat) (c s : List UInt8) (w : World) (hc : Row w (.slice ao c.length capc) c) (hs : Src w (.slice (some ⟨g, 0, none⟩) s.length cap) s)
   (hne : ¬ Blk (.slice ao c.length capc) g) (h : c.length < off + s.length) (hb : off + s.length ≤ 16777216) :
    Calls Try.prog 52 #[.slice ao c.length capc, .int .i64 off, .slice (some ⟨g, 0, none⟩) s.length cap] w (PutPost (.slice ao c.length capc) (put c off s) w) := by
  obtain ⟨i0, hi, hz0, hz1, hz2⟩ := info_parts Try.info5
  obtain ⟨m, hm⟩ : ∃ m, m = off + s.length - c.length := ⟨_, rfl⟩
  obtain ⟨v1, w1, hr, h1, h2, h3, h4⟩ := run_append_own_zeros (P := Try.prog) w 56 3 56 5 i0 (.int .u8 0) .i64 Try.underlying56 Try.underlying3 hi hz0 hz1 hz2 rfl rfl _ _ _ hc m (by omega) (by omega)
  rw [show (m : Int) = (off : Int) + s.length - c.length by omega] at hr
  rw [← cellsB_replicate, ← cellsB_append] at h1
  have hl : c.length + m = (c ++ List.replicate m 0).length := by simp
  rw [hl] at h1
  have hrow : Row w1 v1 (c ++ List.replicate m 0) := h1
  have ho : Only (Blk (.slice ao c.length capc)) w w1 := Only.grown h2 (fun k hk => hk)
  have hs1 : Src w1 (.slice (some ⟨g, 0, none⟩) s.length cap) s := hs.other ho (fun k hk hx => by simp [Blk, Value.ownBlock] at hk; subst hk; exact hne hx)
  obtain ⟨g1, cap1, rfl, hcap1⟩ : ∃ g1 cap1, v1 = .slice (some ⟨g1, 0, none⟩) (c ++ List.replicate m 0).length cap1 ∧ (c ++ List.replicate m 0).length ≤ cap1 := by
    rcases hrow.2 with ⟨hn, _⟩ | ⟨g1, cap1, cur, hv, _, _, hle, _⟩
    · exact absurd hn h4
    · exact ⟨g1, cap1, hv, hle⟩
  have HP := Lib.hid (put_pad c off s m hm h)
  have hfit : off + s.length ≤ (c ++ List.replicate m 0).length := by simp; omega
  have Hl := Lib.hid hl
  have Hm := Lib.hid hm
  have h5 : (c ++ List.replicate m 0).length ≤ 16777216 := by simp; omega
  clear hl hm h1 h2 h4
  generalize c ++ List.replicate m 0 = c1 at *
  by_cases hco : cap1 = off
  · subst hco
    go_enter Try.func52, Try.ntmps52
    go_wp2_with (first | (at_builtin; refine Lib.wpList_append_run w rfl (.tmp 17) (.tmp 18) 56 3 rfl _ _ rfl rfl _ _ hr ?_) | (refine wpList_copy_put rfl (.tmp 22) (.tmp 23) 56 56 rfl Try.underlying56 Try.size5 (some ⟨g1, 0, none⟩) cap1 c1 hrow cap1 _ _ _ rfl ?hdl _ _ _ s rfl ?hsl hs1 hfit ?hdp ?hh))
    case hh =>
      intro w' h1 h2
      go_wp2
      go_ret
      rw [HP.out] at h1
      exact ⟨_, rfl, h1, ho.trans h2 (fun i hi hx => by rcases h3 i hx with h | h; exact h; omega), h3⟩
    all_goals first | omega | rfl | (intro; omega) | (intro; rfl) | (intro; simp [addr_add0]; done)
  · go_enter Try.func52, Try.ntmps52
    go_wp2_with (first | (at_builtin; refine Lib.wpList_append_run w rfl (.tmp 17) (.tmp 18) 56 3 rfl _ _ rfl rfl _ _ hr ?_) | (refine wpList_copy_put rfl (.tmp 22) (.tmp 23) 56 56 rfl Try.underlying56 Try.size5 (some ⟨g1, 0, none⟩) cap1 c1 hrow off _ _ _ rfl ?hdlB _ _ _ s rfl ?hslB hs1 hfit ?hdpB ?hhB))
    case hhB =>
      intro w' h1 h2
      go_wp2
      go_ret
      rw [HP.out] at h1
      exact ⟨_, rfl, h1, ho.trans h2 (fun i hi hx => by rcases h3 i hx with h | h; exact h; omega), h3⟩
    all_goals first | omega | rfl | (intro; omega) | (intro; rfl) | (intro; simp [addr_add0]; done)

theorem put_any (v vs : Value) (off : Nat) (c s : List UInt8) (w : World) (hc : Row w v c) (hs : Src w vs s) (hne : ∀ k, Blk vs k → ¬ Blk v k) (hb : off + s.length ≤ 16777216) (hb2 : c.length ≤ 16777216) :
    Calls Try.prog 52 #[v, .int .i64 off, vs] w (PutPost v (put c off s) w) := by
  have hs' := hs
  obtain ⟨g, cap, cur, e, fz, rfl, _, _⟩ := hs'
  obtain ⟨ao, capc, rfl, hcap⟩ : ∃ ao capc, v = .slice ao c.length capc ∧ c.length ≤ capc := by
    rcases hc.2 with ⟨rfl, h0⟩ | ⟨g, cap, cur, rfl, _, _, hle, _⟩
    · exact ⟨none, 0, by rw [h0], by omega⟩
    · exact ⟨_, _, rfl, hle⟩
  by_cases h : off + s.length ≤ c.length
  · exact put_fits ao capc off g cap c s w hc hs h hb2 hcap
  · exact put_grows ao capc off g cap c s w hc hs (hne g rfl) (by omega) hb
/-- The run of append of one row of bytes to another one, both of whatever shape. -/
theorem run_append_row (w : World) (va vb : Value) (a b : List UInt8) (ha : Row w va a) (hb : Row w vb b) (hs : a.length + b.length ≤ 1000000000) :
    ∃ v' w', (Builtin.append_ #[56, 56] 56 #[va, vb]).run Try.prog w = .ok v' w' ∧ Row w' v' (a ++ b) ∧ Only (Blk va) w w' ∧ ∀ k, Blk v' k → Blk va k ∨ w.heap.size ≤ k := by
  obtain ⟨i0, hi, hz0, hz1, hz2⟩ := info_parts Try.info5
  rcases hb.2 with ⟨rfl, h0⟩ | ⟨g, cap, cur, rfl, _, hg, hnc, hcm, hcs, ht⟩
  · obtain rfl : b = [] := List.eq_nil_of_length_eq_zero h0
    have hr := run_append_owned_none (P := Try.prog) (w := w) 0 56 56 5 i0 1 Try.underlying56 hi va a.length (cellsB a) ha
    exact ⟨va, w, hr, by rw [List.append_nil]; exact ha, Only.refl _ _, fun k hk => .inl hk⟩
  · have hsrc : Src w (.slice (some ⟨g, 0, none⟩) b.length cap) b := hb.src (by simp)
    obtain ⟨v', w', hr, h1, h2, h3, _⟩ := run_append_own_f (P := Try.prog) w 56 56 5 i0 (.int .u8 0) 1 1 Try.underlying56 hi hz0 hz1 hz2 rfl (by decide) va a.length (cellsB a) ha ⟨g, 0, none⟩ b.length cap (cellsB b) (by simp) hsrc.cells.2 (cellsB_one b) (by unfold maxLen; omega) (by omega)
    refine ⟨v', w', hr, ?_, Only.grown h2 (fun k hk => hk), h3⟩
    rw [← cellsB_append, ← List.length_append] at h1
    exact h1

theorem Row.cut {w : World} {ao : Option Addr} {n cap : Nat} {l : List UInt8} (h : Row w (.slice ao n cap) l) : Row w (.slice ao 0 cap) [] := by
  refine ⟨by simp [cellsB], ?_⟩
  rcases h.2 with ⟨hv, h0⟩ | ⟨g, cap', cur, hv, hb, hg, hnc, hcm, hcs, ht⟩
  · simp only [Value.slice.injEq] at hv
    obtain ⟨rfl, rfl, rfl⟩ := hv
    exact .inl ⟨rfl, rfl⟩
  · simp only [Value.slice.injEq] at hv
    obtain ⟨rfl, rfl, rfl⟩ := hv
    exact .inr ⟨g, cap, cur, rfl, hb, hg, Nat.zero_le _, hcm, hcs, by simp [cellsB]⟩

/-- An append whose run is known, as one step of a region that draws its order. -/
theorem step_append_run {P : Program} {ops : Array Oper} {o : Oper} {a : Act} {w : World} {K : Act → World → Prop} {Q : Exit → Act → World → Prop} {E : Prop} (hgd : o.guard = none) (s x : Operand) (t tn : TypeId)
    (ho : o.op = .call { callee := .builtin .append, args := #[s, x], argTypes := #[t, tn] }) (vs vx : Value) (hs : a.eval s = vs) (hx : a.eval x = vx)
    (v' : Value) (w' : World) (hr : (Builtin.append_ #[t, tn] o.type #[vs, vx]).run P w = .ok v' w') (h : K (a.put o.dst v') w') :
    if Region.wanted o (yielded ops a.tmps) = true then Oper.wp P o a w K Q else E := by
  have hw : Region.wanted o (yielded ops a.tmps) = true := by simp [Region.wanted, hgd]
  rw [if_pos hw]
  exact Lib.wp_append_run w s x t tn ho vs vx hs hx v' w' hr h

end Go.Proofs.Ytdpebdghhgojaaa
