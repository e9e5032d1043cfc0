/- The walk of steps, with its deferred mark. -/
import Derived.Test.YtdpebdghhgojaaaJApp
import Derived.BigRegion
namespace Go.Proofs.Ytdpebdghhgojaaa
open Go.RowKit

set_option maxRecDepth 100000 in
set_option maxHeartbeats 1000000 in
theorem mark_any (Bj Be jb db : Nat) (js : JS) (x : Int) (u : FrameMode) (w : World) (hj : Boxed w Bj 65 (.pointer (some ⟨jb, 0, none⟩))) (he : Boxed w Be 44 (.int .i64 x)) (hh : JHdr w jb db js) (hb : js.broken = false) (c : Bool) (hx : (x != 0) = c) :
    CallsD Try.prog 68 #[.pointer (some ⟨Bj, 0, none⟩), .pointer (some ⟨Be, 0, none⟩)] u w fun e u' w' => u' = u ∧ (e = .returned (.tuple #[]) ∧ JHdr w' jb db { js with broken := c } ∧ Only (Is jb) w w') := by
  have cj := hj.cell
  have ce := he.cell
  obtain ⟨c0, c1, c2, c3, c4⟩ := hh.cells
  rw [hb] at c4
  have f4 := hh.free 4
  clear c0 c1 c2 c3
  go_enter_d Try.func68, Try.ntmps68
  go_region
  all_goals
    go_end0
    exact ⟨rfl, hh.broken' c, (Only.setCell (S := Is jb) w ⟨jb, 4, none⟩ _ rfl).trans (Only.drew _ _) (fun _ _ h => h)⟩

/-- What steps carries from one step to the next. -/
structure StepI (W0 : World) (fd : Nat → Prop) (Bj Br Bn jb db g b1 b2 : Nat) (js : JS) (r : List UInt8) (n : Nat) (d : DS) (x : Int) (wr : World) (fp : Nat → Prop) : Prop where
  ai : AppIn wr fp Bj jb db js d
  br : Boxed wr Br 9 (SV r)
  bn : Boxed wr Bn 3 (.int .i64 n)
  xb1 : Boxed wr b1 65 (.pointer (some ⟨jb, 0, none⟩))
  xb2 : Boxed wr b2 44 (.int .i64 x)
  gg : wr.heap[g]? = some (.cells #[.func (.func 62) #[] #[.pointer (some ⟨Bj, 0, none⟩), .pointer (some ⟨Br, 0, none⟩)], .func (.func 64) #[] #[.pointer (some ⟨Bj, 0, none⟩), .pointer (some ⟨Bn, 0, none⟩)]] 46 (0, 0))
  far : ∀ k, fp k → fd k ∨ W0.heap.size ≤ k
  on : Only (fun k => fd k ∨ k = b2) W0 wr

/-- Where the blocks of steps lie. -/
structure StepB (W0 : World) (fd : Nat → Prop) (Bj Br Bn jb g b1 b2 : Nat) : Prop where
  nj : ¬ fd Bj ∧ ¬ fd Br ∧ ¬ fd Bn ∧ ¬ fd jb ∧ ¬ fd g ∧ ¬ fd b1 ∧ ¬ fd b2
  lt : Bj < W0.heap.size ∧ Br < W0.heap.size ∧ Bn < W0.heap.size ∧ jb < W0.heap.size ∧ g < W0.heap.size ∧ b1 < W0.heap.size ∧ b2 < W0.heap.size
  ne : Bj ≠ b2 ∧ Br ≠ b2 ∧ Bn ≠ b2 ∧ jb ≠ b2 ∧ g ≠ b2 ∧ b1 ≠ b2
  fl : ∀ k, fd k → k < W0.heap.size

variable {W0 : World} {fd : Nat → Prop} {Bj Br Bn jb db g b1 b2 : Nat} {js : JS} {r : List UInt8} {n : Nat} {d d' : DS} {x : Int} {wr w' : World} {fp : Nat → Prop}

theorem StepI.not (h : StepI W0 fd Bj Br Bn jb db g b1 b2 js r n d x wr fp) {k : Nat} (h1 : ¬ fd k) (h2 : k < W0.heap.size) : ¬ fp k := fun hk => by
  rcases h.far k hk with h3 | h3
  · exact h1 h3
  · omega

/-- A call on the disk. -/
theorem StepI.disk (h : StepI W0 fd Bj Br Bn jb db g b1 b2 js r n d x wr fp) (hb : StepB W0 fd Bj Br Bn jb g b1 b2) (d2 : DiskAt w' (grow fp wr w') db d') (o : Only fp wr w') : StepI W0 fd Bj Br Bn jb db g b1 b2 js r n d' x w' (grow fp wr w') := by
  obtain ⟨n1, n2, n3, n4, n5, n6, n7⟩ := hb.nj
  obtain ⟨l1, l2, l3, l4, l5, l6, l7⟩ := hb.lt
  have z0 := h.on.size
  have hbl : ∀ {k : Nat} {u : Obj}, ¬ fd k → k < W0.heap.size → wr.heap[k]? = some u → w'.heap[k]? = some u := fun a b c => (o.block _ (lt_of_heap c) (h.not a b)).trans c
  have hg : ∀ {k : Nat}, ¬ fd k → k < W0.heap.size → ¬ grow fp wr w' k := fun a b hk => by
    rcases hk with hk | ⟨hk, _⟩
    · exact h.not a b hk
    · omega
  refine ⟨⟨hbl n1 l1 h.ai.bj, hbl n4 l4 h.ai.jh, d2, hg n4 l4, hg n1 l1⟩, hbl n2 l2 h.br, hbl n3 l3 h.bn, hbl n6 l6 h.xb1, hbl n7 l7 h.xb2, hbl n5 l5 h.gg, ?_, ?_⟩
  · rintro k (hk | ⟨hk, _⟩)
    · exact h.far k hk
    · right; omega
  · refine h.on.trans o (fun i hi hx => ?_)
    rcases h.far i hx with h3 | h3
    · exact .inl h3
    · omega

/-- The result was stored. -/
theorem StepI.err (h : StepI W0 fd Bj Br Bn jb db g b1 b2 js r n d x wr fp) (hb : StepB W0 fd Bj Br Bn jb g b1 b2) (y : Int) : StepI W0 fd Bj Br Bn jb db g b1 b2 js r n d y (wr.setCell ⟨b2, 0, none⟩ (.int .i64 y)) fp := by
  obtain ⟨n1, n2, n3, n4, n5, n6, n7⟩ := hb.nj
  obtain ⟨l1, l2, l3, l4, l5, l6, l7⟩ := hb.lt
  obtain ⟨e1, e2, e3, e4, e5, e6⟩ := hb.ne
  have o : Only (Is b2) wr (wr.setCell ⟨b2, 0, none⟩ (.int .i64 y)) := Only.setCell _ _ _ rfl
  have hbl : ∀ {k : Nat} {u : Obj}, k ≠ b2 → wr.heap[k]? = some u → (wr.setCell ⟨b2, 0, none⟩ (.int .i64 y)).heap[k]? = some u := fun a c => (o.block _ (lt_of_heap c) a).trans c
  exact ⟨⟨hbl e1 h.ai.bj, hbl e4 h.ai.jh, h.ai.dk.other o (fun k hk hx => by obtain rfl : k = b2 := hx; exact h.not n7 l7 hk), h.ai.nj, h.ai.nb⟩, hbl e2 h.br, hbl e3 h.bn, hbl e6 h.xb1, h.xb2.set _, hbl e5 h.gg, h.far, h.on.trans (o.mono (fun _ _ h => .inr h)) (fun _ _ h => h)⟩

/-- Which steps were made. -/
def Made (e : Nat) (d0 : DS) (r : List UInt8) (k : Int) (d : DS) : Prop :=
  (k = 0 ∧ d = d0) ∨ (k = 1 ∧ d0.step e (encR r) = (d, 0)) ∨ (k = 2 ∧ d0.app e r = (d, 0))

def StepsRel (W0 : World) (fd : Nat → Prop) (Bj Br Bn jb db g b1 b2 : Nat) (js : JS) (r : List UInt8) (d0 : DS) (iv : Value) (wr : World) : Prop :=
  ∃ (k : Int) (d : DS) (fp : Nat → Prop), iv = .int .i64 k ∧ Made js.end_ d0 r k d ∧ (d.calls : Int) ≤ d0.calls + 2 * k ∧ StepI W0 fd Bj Br Bn jb db g b1 b2 js r (js.end_ + 4 + r.length) d 0 wr fp

def StepsPost (fd : Nat → Prop) (jb db : Nat) (js : JS) (p : DS × Int) (w : World) (e : Ending) (w' : World) : Prop :=
  e = .returned (.int .i64 p.2) ∧ JHdr w' jb db { js with broken := p.2 != 0 } ∧ DiskAt w' (grow fd w w') db p.1 ∧ Only (fun k => fd k ∨ k = jb) w w'

theorem made_zero (W0 w : World) (hW : W0 = (w.alloc (.cells #[.pointer (some ⟨jb, 0, none⟩)] 65)).alloc (.cells #[.int .i64 0] 44)) (h : AppIn w fd Bj jb db js d) (br : Boxed w Br 9 (SV r)) (bn : Boxed w Bn 3 (.int .i64 ((js.end_ + 4 + r.length : Nat) : Int)))
    (gg : w.heap[g]? = some (.cells #[.func (.func 62) #[] #[.pointer (some ⟨Bj, 0, none⟩), .pointer (some ⟨Br, 0, none⟩)], .func (.func 64) #[] #[.pointer (some ⟨Bj, 0, none⟩), .pointer (some ⟨Bn, 0, none⟩)]] 46 (0, 0))) (nd : ¬ fd Br ∧ ¬ fd Bn ∧ ¬ fd g) :
    StepB W0 fd Bj Br Bn jb g w.heap.size (w.heap.size + 1) ∧ StepI W0 fd Bj Br Bn jb db g w.heap.size (w.heap.size + 1) js r (js.end_ + 4 + r.length) d 0 W0 fd ∧ Only Nob w W0 ∧ W0.heap.size = w.heap.size + 2 := by
  have o : Only Nob w W0 := by rw [hW]; exact (Only.alloc Nob _ _).trans (Only.alloc Nob _ _) (fun _ _ h => h)
  have hz : W0.heap.size = w.heap.size + 2 := by rw [hW]; simp
  have q1 : W0.heap[w.heap.size]? = some (.cells #[.pointer (some ⟨jb, 0, none⟩)] 65 (0, 0)) := by
    rw [hW, Below.heap_alloc _ _ _ (by simp)]; exact heap_alloc_new w _
  have q2 : W0.heap[w.heap.size + 1]? = some (.cells #[.int .i64 0] 44 (0, 0)) := by
    have := heap_alloc_new (w.alloc (.cells #[.pointer (some ⟨jb, 0, none⟩)] 65)) (.cells #[.int .i64 0] 44)
    rw [World.size_alloc] at this
    rw [hW]; exact this
  have l1 := h.bj.lt
  have l2 := br.lt
  have l3 := bn.lt
  have l4 := h.jh.lt
  have l5 := lt_of_heap gg
  have hfl := h.dk.lt
  have nf : ∀ k, w.heap.size ≤ k → ¬ fd k := fun k hk hf => by have := hfl k hf; omega
  exact ⟨⟨⟨h.nb, nd.1, nd.2.1, h.nj, nd.2.2, nf _ (Nat.le_refl _), nf _ (by omega)⟩, ⟨by omega, by omega, by omega, by omega, by omega, by omega, by omega⟩, ⟨by omega, by omega, by omega, by omega, by omega, by omega⟩, fun k hk => by have := hfl k hk; omega⟩,
    ⟨h.other o (fun _ _ h => h) (fun h => h) (fun h => h), (o.block _ l2 (fun h => h)).trans br, (o.block _ l3 (fun h => h)).trans bn, q1, q2, (o.block _ l5 (fun h => h)).trans gg, fun k hk => .inl hk, Only.refl _ _⟩, o, hz⟩

/-- The end of steps: the mark, and what is told. -/
theorem steps_end {w W0 wr w3 : World} (h : StepI W0 fd Bj Br Bn jb db g w.heap.size (w.heap.size + 1) js r n d x wr fp) (hb : StepB W0 fd Bj Br Bn jb g w.heap.size (w.heap.size + 1)) (o : Only Nob w W0) (hz : W0.heap.size = w.heap.size + 2) (hlj : jb < w.heap.size) (hfl : ∀ k, fd k → k < w.heap.size)
    (oM : Only (Is jb) wr w3) : Boxed w3 (w.heap.size + 1) 44 (.int .i64 x) ∧ DiskAt w3 (grow fd w w3) db d ∧ Only (fun k => fd k ∨ k = jb) w w3 := by
  have z1 := h.on.size
  have z2 := oM.size
  have hoo : Only (fun k => fd k ∨ k = jb) w w3 := by
    refine ((o.mono (T := fun k => fd k ∨ k = jb) (fun _ _ h => h.elim)).trans h.on (fun i hi hx => ?_)).trans oM (fun _ _ h => .inr h)
    rcases hx with hx | hx
    · exact .inl hx
    · omega
  refine ⟨(oM.block _ h.xb2.lt (fun e => by have e : w.heap.size + 1 = jb := e; omega)).trans h.xb2, ?_, hoo⟩
  refine (h.ai.dk.other oM (fun k hk hx => by obtain rfl : k = jb := hx; exact h.ai.nj hk)).mono (fun k hk => ?_) (grow_lt hfl hoo.size)
  have hl := h.ai.dk.lt k hk
  rcases h.far k hk with h3 | h3
  · exact .inl h3
  · exact .inr ⟨by omega, by omega⟩

theorem res61 (t : Array Value) {w : World} {n : Nat} {x : Int} (h : Boxed w n 44 (.int .i64 x)) (h4 : t[4]?.getD undef = .pointer (some ⟨n, 0, none⟩)) : (results Try.f61 t).run Try.prog w = .ok (.int .i64 x) w := by
  have c := h.cell
  simp [results, Try.f61, go_sem, h4, c]

theorem steps_close {w W0 wr : World} {p : DS × Int} {t : Array Value} (h4 : t[4]?.getD undef = .pointer (some ⟨w.heap.size + 1, 0, none⟩)) (h : StepI W0 fd Bj Br Bn jb db g w.heap.size (w.heap.size + 1) js r n p.1 p.2 wr fp) (hb : StepB W0 fd Bj Br Bn jb g w.heap.size (w.heap.size + 1)) (o : Only Nob w W0) (hz : W0.heap.size = w.heap.size + 2) (hlj : jb < w.heap.size) (hfl : ∀ k, fd k → k < w.heap.size) (hbr : js.broken = false) :
    bodyPostD Try.prog Try.f61 (StepsPost fd jb db js p w) .ret { tmps := t, defers := [{ target := .fn (.func 68) #[.pointer (some ⟨w.heap.size, 0, none⟩), .pointer (some ⟨w.heap.size + 1, 0, none⟩)], args := #[] }] } wr := by
  refine leaves_cons (f := 68) (args := #[.pointer (some ⟨w.heap.size, 0, none⟩), .pointer (some ⟨w.heap.size + 1, 0, none⟩)]) (by simp) (by simp [go_sem]) ?_
  refine (mark_any w.heap.size (w.heap.size + 1) jb db js p.2 _ _ h.xb1 h.xb2 h.ai.jh hbr _ rfl).mono ?_
  rintro e u' w3 ⟨rfl, rfl, hJ, oM⟩
  obtain ⟨hb2, hD, hO⟩ := steps_end h hb o hz hlj hfl oM
  exact ⟨_, res61 _ hb2 h4, rfl, hJ, hD, hO⟩

theorem StepI.cells (h : StepI W0 fd Bj Br Bn jb db g b1 b2 js r n d x wr fp) :
    wr.cell? ⟨g, 0, none⟩ = some (.func (.func 62) #[] #[.pointer (some ⟨Bj, 0, none⟩), .pointer (some ⟨Br, 0, none⟩)]) ∧ wr.cell? ⟨g, 1, none⟩ = some (.func (.func 64) #[] #[.pointer (some ⟨Bj, 0, none⟩), .pointer (some ⟨Bn, 0, none⟩)]) ∧
    wr.cell? ⟨b1, 0, none⟩ = some (.pointer (some ⟨jb, 0, none⟩)) ∧ wr.cell? ⟨b2, 0, none⟩ = some (.int .i64 x) ∧ wr.frozen? ⟨b2, 0, none⟩ = false ∧ wr.cell? ⟨jb, 0, none⟩ = some (.pointer (some ⟨db, 0, none⟩)) :=
  ⟨by simp [World.cell?, h.gg], by simp [World.cell?, h.gg], h.xb1.cell, h.xb2.cell, h.xb2.frozen, h.ai.jh.cells.1⟩

theorem app_fail1 {d : DS} {e : Nat} {r : List UInt8} (h : d.wrE e (encR r) ≠ 0) : d.app e r = (d.wr e (encR r), d.wrE e (encR r)) := by
  have hs : d.step e (encR r) = (d.wr e (encR r), d.wrE e (encR r)) := by unfold DS.step; rw [if_neg h]
  unfold DS.app
  rw [hs, if_neg h]
theorem app_fail2 {d : DS} {e : Nat} {r : List UInt8} (h : d.wrE e (encR r) = 0) (h2 : (d.wr e (encR r)).syE ≠ 0) : d.app e r = ((d.wr e (encR r)).sy, (d.wr e (encR r)).syE) := by
  have hs : d.step e (encR r) = ((d.wr e (encR r)).sy, (d.wr e (encR r)).syE) := by unfold DS.step; rw [if_pos h]
  unfold DS.app
  rw [hs, if_neg h2]
theorem step_good {d : DS} {e : Int} {s : List UInt8} (h : d.wrE e s = 0) (h2 : (d.wr e s).syE = 0) : d.step e s = ((d.wr e s).sy, 0) := by
  unfold DS.step; rw [if_pos h, h2]
theorem app_second {d d1 : DS} {e : Nat} {r : List UInt8} (h : d.step e (encR r) = (d1, 0)) : d.app e r = d1.step 0 (numB (e + 4 + r.length - 64) 8) := by
  unfold DS.app; rw [h, if_pos rfl]
theorem app_fail3 {d d1 : DS} {e : Nat} {r : List UInt8} (h : d.step e (encR r) = (d1, 0)) (h3 : d1.wrE 0 (numB (e + 4 + r.length - 64) 8) ≠ 0) : d.app e r = (d1.wr 0 (numB (e + 4 + r.length - 64) 8), d1.wrE 0 (numB (e + 4 + r.length - 64) 8)) := by
  rw [app_second h]; unfold DS.step; rw [if_neg h3]
theorem app_fail4 {d d1 : DS} {e : Nat} {r : List UInt8} (h : d.step e (encR r) = (d1, 0)) (h3 : d1.wrE 0 (numB (e + 4 + r.length - 64) 8) = 0) : d.app e r = ((d1.wr 0 (numB (e + 4 + r.length - 64) 8)).sy, (d1.wr 0 (numB (e + 4 + r.length - 64) 8)).syE) := by
  rw [app_second h]; unfold DS.step; rw [if_pos h3]
theorem wr_calls (d : DS) (o : Int) (s : List UInt8) : (d.wr o s).calls ≤ d.calls + 1 := by
  unfold DS.wr; split
  · omega
  · exact Nat.le_refl _
theorem sy_calls (d : DS) : d.sy.calls ≤ d.calls + 1 := by
  unfold DS.sy; split
  · omega
  · exact Nat.le_refl _

set_option maxRecDepth 100000 in
set_option maxHeartbeats 4000000 in
theorem steps_any (w : World) (h : AppIn w fd Bj jb db js d) (br : Boxed w Br 9 (SV r)) (bn : Boxed w Bn 3 (.int .i64 ((js.end_ + 4 + r.length : Nat) : Int)))
    (gg : w.heap[g]? = some (.cells #[.func (.func 62) #[] #[.pointer (some ⟨Bj, 0, none⟩), .pointer (some ⟨Br, 0, none⟩)], .func (.func 64) #[] #[.pointer (some ⟨Bj, 0, none⟩), .pointer (some ⟨Bn, 0, none⟩)]] 46 (0, 0))) (nd : ¬ fd Br ∧ ¬ fd Bn ∧ ¬ fd g) (hbr : js.broken = false)
    (hcl : d.calls < 99990) (hrl : r.length ≤ 40000000) (hj : js.end_ ≤ 40000000) (hj64 : 64 ≤ js.end_) :
    Calls Try.prog 61 #[.pointer (some ⟨jb, 0, none⟩), .slice (some ⟨g, 0, none⟩) 2 2] w (StepsPost fd jb db js (d.app js.end_ r) w) := by
  obtain ⟨W0, hW⟩ : ∃ W0, W0 = (w.alloc (.cells #[.pointer (some ⟨jb, 0, none⟩)] 65)).alloc (.cells #[.int .i64 0] 44) := ⟨_, rfl⟩
  obtain ⟨hB, hI, oW, hz⟩ := made_zero W0 w hW h br bn gg nd
  have hlj := h.jh.lt
  have hfl := h.dk.lt
  have HW := Lib.hid hW
  have HH := Lib.hid hbr
  have hmf : ∀ (fn : Fn) (first cap : Array Value) (w : World), (Instr.makeFunc fn first cap).run Try.prog w = .ok (.func fn first cap) w := fun _ _ _ _ => rfl
  clear h br bn gg nd hW hbr
  go_enter_defers Try.func61, Try.ntmps61
  go_wp2_with fail
  rw [← HW.out]
  go_loopw [6, 10] (fun _ iv wr => StepsRel W0 fd Bj Br Bn jb db g w.heap.size (w.heap.size + 1) js r d iv wr) (fun _ iv _ => 2 - (intOf iv).toNat)
  case atStart => exact ⟨0, d, fd, rfl, .inl ⟨rfl, rfl⟩, by omega, hI⟩
  case round =>
    obtain ⟨k, d1, fp, rfl, hm, hc1, h1⟩ := hrel
    clear hI
    obtain ⟨g0, g1, v1, v2, f2, j0⟩ := h1.cells
    rcases hm with ⟨rfl, hm⟩ | ⟨rfl, hm⟩ | ⟨rfl, hm⟩
    · have HM := Lib.hid hm
      have hD1 := hm
      subst hD1
      clear hm HM
      have hwc := wr_calls d1 js.end_ (encR r)
      go_wp2_with fail
      refine (close1 fp Bj Br jb db js d1 r _ h1.ai h1.br (h1.not hB.nj.2.1 hB.lt.2.1) (by omega) (by omega) (by omega)).mono ?_
      rintro e w2 ⟨rfl, d2, o2⟩
      have h2 := h1.disk hB d2 o2
      clear g0 g1 v1 v2 f2 j0
      obtain ⟨g0, g1, v1, v2, f2, j0⟩ := h2.cells
      by_cases he : d1.wrE js.end_ (encR r) = 0
      · have hb1 : (d1.wrE js.end_ (encR r) != 0) = false := by simp [he]
        have HE := Lib.hid he
        clear he
        have h3 := h2.err hB (d1.wrE js.end_ (encR r))
        have hsc := sy_calls (d1.wr js.end_ (encR r))
        clear hb1
        rw [HE.out] at h3 ⊢
        obtain ⟨g0', g1', v1', v2', f2', j0'⟩ := h3.cells
        go_wp2_with fail
        clear g0' g1' v1' v2' f2' j0'
        refine (sync_all _ db _ _ h3.ai.dk (by omega)).mono ?_
        rintro e w4 ⟨rfl, d4, o4⟩
        have h4 := h3.disk hB d4 o4
        clear g0 g1 v1 v2 f2 j0
        obtain ⟨g0, g1, v1, v2, f2, j0⟩ := h4.cells
        by_cases hs : (d1.wr js.end_ (encR r)).syE = 0
        · have HS := Lib.hid hs
          clear hs
          rw [HS.out]
          have h5 := Lib.hid (h4.err hB 0)
          go_wp2_with fail
          go_roundw
          case rel => exact ⟨1, _, _, rfl, .inr (.inl ⟨rfl, step_good HE.out HS.out⟩), by omega, h5.out⟩
          case measure => simp [intOf]
        · have hb2 : ((d1.wr js.end_ (encR r)).syE != 0) = true := by simpa using hs
          have h5 := Lib.hid ((h4.err hB ((d1.wr js.end_ (encR r)).syE)).err hB ((d1.wr js.end_ (encR r)).syE))
          go_wp2_with fail
          rw [app_fail2 HE.out hs]
          exact steps_close rfl h5.out hB oW hz hlj hfl HH.out
      · have hb1 : (d1.wrE js.end_ (encR r) != 0) = true := by simpa using he
        have h3 := Lib.hid ((h2.err hB (d1.wrE js.end_ (encR r))).err hB (d1.wrE js.end_ (encR r)))
        go_wp2_with fail
        rw [app_fail1 he]
        exact steps_close rfl h3.out hB oW hz hlj hfl HH.out
    · have HM := Lib.hid hm
      clear hm
      have hwc := wr_calls d1 0 (numB (js.end_ + 4 + r.length - 64) 8)
      go_wp2_with fail
      refine (close2 fp Bj Bn jb db (js.end_ + 4 + r.length) js d1 _ h1.ai h1.bn (h1.not hB.nj.2.2.1 hB.lt.2.2.1) (by omega) (by omega) (by omega)).mono ?_
      rintro e w2 ⟨rfl, d2, o2⟩
      have h2 := h1.disk hB d2 o2
      clear g0 g1 v1 v2 f2 j0
      obtain ⟨g0, g1, v1, v2, f2, j0⟩ := h2.cells
      by_cases he : d1.wrE 0 (numB (js.end_ + 4 + r.length - 64) 8) = 0
      · have hb1 : (d1.wrE 0 (numB (js.end_ + 4 + r.length - 64) 8) != 0) = false := by simp [he]
        have HE := Lib.hid he
        clear he
        have h3 := h2.err hB (d1.wrE 0 (numB (js.end_ + 4 + r.length - 64) 8))
        have hsc := sy_calls (d1.wr 0 (numB (js.end_ + 4 + r.length - 64) 8))
        clear hb1
        rw [HE.out] at h3 ⊢
        obtain ⟨g0', g1', v1', v2', f2', j0'⟩ := h3.cells
        go_wp2_with fail
        clear g0' g1' v1' v2' f2' j0'
        refine (sync_all _ db _ _ h3.ai.dk (by omega)).mono ?_
        rintro e w4 ⟨rfl, d4, o4⟩
        have h4 := h3.disk hB d4 o4
        clear g0 g1 v1 v2 f2 j0
        obtain ⟨g0, g1, v1, v2, f2, j0⟩ := h4.cells
        by_cases hs : (d1.wr 0 (numB (js.end_ + 4 + r.length - 64) 8)).syE = 0
        · have HS := Lib.hid hs
          clear hs
          rw [HS.out]
          have h5 := Lib.hid (h4.err hB 0)
          go_wp2_with fail
          go_roundw
          case rel => exact ⟨2, _, _, rfl, .inr (.inr ⟨rfl, by rw [app_fail4 HM.out HE.out, HS.out]⟩), by omega, h5.out⟩
          case measure => simp [intOf]
        · have hb2 : ((d1.wr 0 (numB (js.end_ + 4 + r.length - 64) 8)).syE != 0) = true := by simpa using hs
          have h5 := Lib.hid ((h4.err hB ((d1.wr 0 (numB (js.end_ + 4 + r.length - 64) 8)).syE)).err hB ((d1.wr 0 (numB (js.end_ + 4 + r.length - 64) 8)).syE))
          go_wp2_with fail
          rw [app_fail4 HM.out HE.out]
          exact steps_close rfl h5.out hB oW hz hlj hfl HH.out
      · have hb1 : (d1.wrE 0 (numB (js.end_ + 4 + r.length - 64) 8) != 0) = true := by simpa using he
        have h3 := Lib.hid ((h2.err hB (d1.wrE 0 (numB (js.end_ + 4 + r.length - 64) 8))).err hB (d1.wrE 0 (numB (js.end_ + 4 + r.length - 64) 8)))
        go_wp2_with fail
        rw [app_fail3 HM.out he]
        exact steps_close rfl h3.out hB oW hz hlj hfl HH.out
    · have HM := Lib.hid hm
      clear hm
      have h3 := Lib.hid (h1.err hB 0)
      go_wp2_with fail
      rw [HM.out]
      exact steps_close rfl h3.out hB oW hz hlj hfl HH.out

end Go.Proofs.Ytdpebdghhgojaaa
