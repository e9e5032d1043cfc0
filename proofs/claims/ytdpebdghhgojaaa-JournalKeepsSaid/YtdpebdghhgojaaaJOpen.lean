/- The walk of Open. -/
import Derived.Test.YtdpebdghhgojaaaJMem
namespace Go.Proofs.Ytdpebdghhgojaaa
open Go.RowKit Go.Shelf

attribute [local go_sem] Oper.semAt_some

/-- The answer that a journal is not opened. -/
def OpenBad (fp : Nat → Prop) (b : Nat) (d : DS) (err : Int) (w : World) (r : Ending) (w' : World) : Prop :=
  r = .returned (.tuple #[.pointer none, .slice none 0 0, .int .i64 err]) ∧ DiskAt w' (grow fp w w') b d ∧ Only fp w w'

/-- The three cells of the results. -/
structure Res (n0 : Nat) (W : World) (p : Option Addr) (ao : Option Addr) (len cap : Nat) (x : Int) : Prop where
  c2 : W.heap[n0]? = some (.cells #[.pointer p] 65 (0, 0))
  c3 : W.heap[n0 + 1]? = some (.cells #[.slice ao len cap] 64 (0, 0))
  c4 : W.heap[n0 + 1 + 1]? = some (.cells #[.int .i64 x] 44 (0, 0))

theorem Res.new (w : World) (p : Option Addr) (ao : Option Addr) (len cap : Nat) (x : Int) : Res w.heap.size (((w.alloc (.cells #[.pointer p] 65)).alloc (.cells #[.slice ao len cap] 64)).alloc (.cells #[.int .i64 x] 44)) p ao len cap x := by
  have h1 := heap_alloc_new w (.cells #[.pointer p] 65)
  have h2 := heap_alloc_new (w.alloc (.cells #[.pointer p] 65)) (.cells #[.slice ao len cap] 64)
  have h3 := heap_alloc_new ((w.alloc (.cells #[.pointer p] 65)).alloc (.cells #[.slice ao len cap] 64)) (.cells #[.int .i64 x] 44)
  simp only [World.size_alloc] at h2 h3
  refine ⟨?_, ?_, h3⟩
  · rw [Below.heap_alloc _ _ _ (by simp; omega), Below.heap_alloc _ _ _ (by simp)]; exact h1
  · rw [Below.heap_alloc _ _ _ (by simp)]; exact h2

theorem Res.other {S : Nat → Prop} {w w' : World} {n0 : Nat} {p ao : Option Addr} {len cap : Nat} {x : Int} (h : Res n0 w p ao len cap x) (ho : Only S w w') (hn : ¬ S n0 ∧ ¬ S (n0 + 1) ∧ ¬ S (n0 + 1 + 1)) : Res n0 w' p ao len cap x :=
  ⟨(ho.block _ (lt_of_heap h.c2) hn.1).trans h.c2, (ho.block _ (lt_of_heap h.c3) hn.2.1).trans h.c3, (ho.block _ (lt_of_heap h.c4) hn.2.2).trans h.c4⟩

theorem Res.cells {w : World} {n0 : Nat} {p ao : Option Addr} {len cap : Nat} {x : Int} (h : Res n0 w p ao len cap x) :
    w.cell? ⟨n0, 0, none⟩ = some (.pointer p) ∧ w.cell? ⟨n0 + 1, 0, none⟩ = some (.slice ao len cap) ∧ w.cell? ⟨n0 + 1 + 1, 0, none⟩ = some (.int .i64 x) ∧ w.frozen? ⟨n0, 0, none⟩ = false ∧ w.frozen? ⟨n0 + 1, 0, none⟩ = false ∧ w.frozen? ⟨n0 + 1 + 1, 0, none⟩ = false := by
  simp [World.cell?, World.frozen?, h.c2, h.c3, h.c4]

theorem Res.set {w : World} {n0 : Nat} {p ao : Option Addr} {len cap : Nat} {x : Int} (h : Res n0 w p ao len cap x) (p' ao' : Option Addr) (len' cap' : Nat) (x' : Int) :
    Res n0 (((w.setCell ⟨n0, 0, none⟩ (.pointer p')).setCell ⟨n0 + 1, 0, none⟩ (.slice ao' len' cap')).setCell ⟨n0 + 1 + 1, 0, none⟩ (.int .i64 x')) p' ao' len' cap' x' := by
  have a2 := heap_setCell_same w n0 0 _ 65 (.pointer p') h.c2
  have a3 : (w.setCell ⟨n0, 0, none⟩ (.pointer p')).heap[n0 + 1]? = _ := (heap_setCell_other w ⟨n0, 0, none⟩ (n0 + 1) (.pointer p') (by simp)).trans h.c3
  have a4 : (w.setCell ⟨n0, 0, none⟩ (.pointer p')).heap[n0 + 1 + 1]? = _ := (heap_setCell_other w ⟨n0, 0, none⟩ (n0 + 1 + 1) (.pointer p') (by simp; omega)).trans h.c4
  generalize w.setCell ⟨n0, 0, none⟩ (.pointer p') = w1 at *
  have b3 := heap_setCell_same w1 (n0 + 1) 0 _ 64 (.slice ao' len' cap') a3
  have b2 := (heap_setCell_other w1 ⟨n0 + 1, 0, none⟩ n0 (.slice ao' len' cap') (by simp)).trans a2
  have b4 := (heap_setCell_other w1 ⟨n0 + 1, 0, none⟩ (n0 + 1 + 1) (.slice ao' len' cap') (by simp)).trans a4
  generalize w1.setCell ⟨n0 + 1, 0, none⟩ (.slice ao' len' cap') = w2 at *
  exact ⟨(heap_setCell_other w2 ⟨n0 + 1 + 1, 0, none⟩ n0 _ (by simp; omega)).trans b2, (heap_setCell_other w2 ⟨n0 + 1 + 1, 0, none⟩ (n0 + 1) _ (by simp)).trans b3, heap_setCell_same w2 (n0 + 1 + 1) 0 _ 44 _ b4⟩

theorem res40 (t : Array Value) {w : World} {n0 : Nat} {p ao : Option Addr} {len cap : Nat} {x : Int} (h : Res n0 w p ao len cap x) (h2 : t[2]?.getD undef = .pointer (some ⟨n0, 0, none⟩)) (h3 : t[3]?.getD undef = .pointer (some ⟨n0 + 1, 0, none⟩)) (h4 : t[4]?.getD undef = .pointer (some ⟨n0 + 1 + 1, 0, none⟩)) :
    (results Try.f40 t).run Try.prog w = .ok (.tuple #[.pointer p, .slice ao len cap, .int .i64 x]) w := by
  obtain ⟨c2, c3, c4, _⟩ := h.cells
  simp [results, Try.f40, go_sem, h2, h3, h4, c2, c3, c4]

set_option maxRecDepth 100000 in
set_option maxHeartbeats 4000000 in
theorem open_off (fp : Nat → Prop) (b : Nat) (d : DS) (w : World) (hd : DiskAt w fp b d) (ho : d.off = true) :
    Calls Try.prog 40 #[.pointer (some ⟨b, 0, none⟩)] w (OpenBad fp b d 70 w) := by
  refine (callsIn_wide (n := 10)).1 ?_
  refine callsIn_of_wp_marks Try.func40 rfl trivial ?_ rfl
  simp only [Try.ntmps40, List.size_toArray, List.length_cons, List.length_nil, Nat.reduceAdd, Nat.reduceSub, Array.replicate_succ, Array.replicate_zero, List.push_toArray, List.append_toArray, List.nil_append, List.cons_append]
  refine wpIn_wide.2 ?_
  have o0 : Only Nob w (((w.alloc (.cells #[.pointer none] 65)).alloc (.cells #[.slice none 0 0] 64)).alloc (.cells #[.int .i64 0] 44)) := (Only.alloc Nob w _).trans ((Only.alloc Nob _ _).trans (Only.alloc Nob _ _) (fun _ _ h => h)) (fun _ _ h => h)
  have hd0 := hd.other o0 (fun _ _ h => h)
  go_wp2_with fail
  refine (sync_off fp b d _ hd0 ho).mono ?_
  rintro r w1 ⟨rfl, rfl⟩
  go_wp2
  refine ⟨_, res40 _ (Res.new w none none 0 0 70) rfl rfl rfl, rfl, ?_, ?_⟩
  · have o1 : Only Nob w (((w.alloc (.cells #[.pointer none] 65)).alloc (.cells #[.slice none 0 0] 64)).alloc (.cells #[.int .i64 70] 44)) := (Only.alloc Nob w _).trans ((Only.alloc Nob _ _).trans (Only.alloc Nob _ _) (fun _ _ h => h)) (fun _ _ h => h)
    exact hd.none o1
  · exact ((Only.alloc fp w _).trans ((Only.alloc fp _ _).trans (Only.alloc fp _ _) (fun _ _ h => h)) (fun _ _ h => h))

/-- The three cells of the results alone. -/
def S3 (n0 : Nat) : Nat → Prop := fun k => k = n0 ∨ k = n0 + 1 ∨ k = n0 + 1 + 1
theorem only_res (w : World) (n0 : Nat) (p ao : Option Addr) (len cap : Nat) (x : Int) : Only (S3 n0) w (((w.setCell ⟨n0, 0, none⟩ (.pointer p)).setCell ⟨n0 + 1, 0, none⟩ (.slice ao len cap)).setCell ⟨n0 + 1 + 1, 0, none⟩ (.int .i64 x)) :=
  (Only.setCell _ _ _ (.inl rfl)).trans ((Only.setCell _ _ _ (.inr (.inl rfl))).trans (Only.setCell _ _ _ (.inr (.inr rfl))) (fun _ _ h => h)) (fun _ _ h => h)

theorem bad_end (fp : Nat → Prop) (b : Nat) (d : DS) (w w1 w2 : World) (hfl : ∀ k, fp k → k < w.heap.size)
    (o0 : Only Nob w (((w.alloc (.cells #[.pointer none] 65)).alloc (.cells #[.slice none 0 0] 64)).alloc (.cells #[.int .i64 0] 44)))
    (o1 : Only fp (((w.alloc (.cells #[.pointer none] 65)).alloc (.cells #[.slice none 0 0] 64)).alloc (.cells #[.int .i64 0] 44)) w1) (o2 : Only Nob w1 w2)
    (d2 : DiskAt w2 (grow fp (((w.alloc (.cells #[.pointer none] 65)).alloc (.cells #[.slice none 0 0] 64)).alloc (.cells #[.int .i64 0] 44)) w1) b d) {p ao : Option Addr} {len cap : Nat} {x : Int} :
    DiskAt (((w2.setCell ⟨w.heap.size, 0, none⟩ (.pointer p)).setCell ⟨w.heap.size + 1, 0, none⟩ (.slice ao len cap)).setCell ⟨w.heap.size + 1 + 1, 0, none⟩ (.int .i64 x))
      (grow fp w (((w2.setCell ⟨w.heap.size, 0, none⟩ (.pointer p)).setCell ⟨w.heap.size + 1, 0, none⟩ (.slice ao len cap)).setCell ⟨w.heap.size + 1 + 1, 0, none⟩ (.int .i64 x))) b d ∧
    Only fp w (((w2.setCell ⟨w.heap.size, 0, none⟩ (.pointer p)).setCell ⟨w.heap.size + 1, 0, none⟩ (.slice ao len cap)).setCell ⟨w.heap.size + 1 + 1, 0, none⟩ (.int .i64 x)) := by
  have oS := only_res w2 w.heap.size p ao len cap x
  generalize ((w2.setCell ⟨w.heap.size, 0, none⟩ (.pointer p)).setCell ⟨w.heap.size + 1, 0, none⟩ (.slice ao len cap)).setCell ⟨w.heap.size + 1 + 1, 0, none⟩ (.int .i64 x) = w3 at *
  have hz : (((w.alloc (.cells #[.pointer none] 65)).alloc (.cells #[.slice none 0 0] 64)).alloc (.cells #[.int .i64 0] 44)).heap.size = w.heap.size + 3 := by simp
  generalize ((w.alloc (.cells #[.pointer none] 65)).alloc (.cells #[.slice none 0 0] 64)).alloc (.cells #[.int .i64 0] 44) = wA at *
  have z1 := o1.size
  have z2 := o2.size
  have z3 := oS.size
  have oall : Only fp w w3 := (((o0.mono (T := fp) (fun _ _ h => h.elim)).trans o1 (fun _ _ h => h)).trans o2 (fun _ _ h => h.elim)).trans oS (fun i hi hx => by rcases hx with h | h | h <;> omega)
  refine ⟨(d2.other oS ?_).mono ?_ (grow_lt hfl oall.size), oall⟩
  · rintro k (hk | ⟨hk, _⟩) hx
    · have := hfl k hk; rcases hx with h | h | h <;> omega
    · rcases hx with h | h | h <;> omega
  · rintro k (hk | ⟨hk, hk2⟩)
    · exact .inl hk
    · exact .inr ⟨by omega, by omega⟩

set_option maxRecDepth 100000 in
set_option maxHeartbeats 4000000 in
theorem open_head (fp : Nat → Prop) (b : Nat) (d : DS) (w : World) (hd : DiskAt w fp b d) (hcl : d.calls < 100000) (ho : d.off = false)
    (hbad : wrap64 (valN d.now 8) < 0 ∨ 16777216 < wrap64 (valN d.now 8) ∨ (0 < wrap64 (valN d.now 8) ∧ (d.now.length : Int) < 64 + wrap64 (valN d.now 8))) :
    Calls Try.prog 40 #[.pointer (some ⟨b, 0, none⟩)] w (OpenBad fp b d.synced 11 w) := by
  obtain ⟨x, hx⟩ : ∃ x, x = wrap64 (valN d.now 8) := ⟨_, rfl⟩
  rw [← hx] at hbad
  have HX := Lib.hid hx
  clear hx
  have hnl := hd.ok.now
  refine (callsIn_wide (n := 10)).1 ?_
  refine callsIn_of_wp_marks Try.func40 rfl trivial ?_ rfl
  simp only [Try.ntmps40, List.size_toArray, List.length_cons, List.length_nil, Nat.reduceAdd, Nat.reduceSub, Array.replicate_succ, Array.replicate_zero, List.push_toArray, List.append_toArray, List.nil_append, List.cons_append]
  refine wpIn_wide.2 ?_
  have o0 : Only Nob w (((w.alloc (.cells #[.pointer none] 65)).alloc (.cells #[.slice none 0 0] 64)).alloc (.cells #[.int .i64 0] 44)) := (Only.alloc Nob w _).trans ((Only.alloc Nob _ _).trans (Only.alloc Nob _ _) (fun _ _ h => h)) (fun _ _ h => h)
  have hd0 := hd.other o0 (fun _ _ h => h)
  have r0 := Res.new w none none 0 0 0
  go_wp2_with fail
  refine (sync_on fp b d _ hd0 ho hcl).mono ?_
  rintro r w1 ⟨rfl, d1, o1⟩
  have hfl : ∀ k, fp k → k < w.heap.size := hd.lt
  have r1 := r0.other o1 ⟨fun h => by have := hfl _ h; omega, fun h => by have := hfl _ h; omega, fun h => by have := hfl _ h; omega⟩
  obtain ⟨c2, c3, c4, f2, f3, f4⟩ := r1.cells
  go_wp2_with fail
  refine (read_all _ b 0 8 _ _ d1 (by unfold Rng; omega) (by unfold Rng; omega)).mono ?_
  rintro r w2 ⟨rfl, o2⟩
  have d2 := d1.other o2 (fun _ _ h => h)
  have r2 := r1.other o2 ⟨fun h => h, fun h => h, fun h => h⟩
  have hV : ∀ w, Calls Try.prog 58 #[.string ⟨(d.synced.read 0 8).toArray⟩, .int .i64 8] w fun e w' => e = .returned (.int .i64 x) ∧ w = w' := fun w => by
    have h := value_any ⟨(d.synced.read 0 8).toArray⟩ 8 w (by omega)
    have e1 : wrap64 (valN (⟨(d.synced.read 0 8).toArray⟩ : ByteArray).data.toList 8) = x := by
      show wrap64 (valN ((d.now.drop 0).take 8) 8) = _
      rw [valN_take _ 8 8 (Nat.le_refl _), HX.out]; rfl
    rw [e1] at h; exact h
  have HV := Lib.hid hV
  obtain ⟨c2, c3, c4, f2, f3, f4⟩ := r2.cells
  clear hV d1 r1 r0
  go_wp2_with fail
  refine (HV.out _).mono ?_
  rintro r w' ⟨rfl, rfl⟩
  have hS := Lib.hid (size_any _ b _ _ d2)
  have hr3 := r2.set none none 0 0 11
  have hfin := Lib.hid (bad_end fp b d.synced w w1 w2 hfl o0 o1 o2 d2 (p := none) (ao := none) (len := 0) (cap := 0) (x := 11))
  rcases hbad with h | h | ⟨h, h'⟩
  · go_wp2_with fail
    exact ⟨_, res40 _ hr3 rfl rfl rfl, rfl, hfin.out⟩
  · by_cases h0 : x < 0
    · omega
    go_wp2_with fail
    exact ⟨_, res40 _ hr3 rfl rfl rfl, rfl, hfin.out⟩
  · by_cases hx0 : x < 0
    · omega
    by_cases hx1 : 16777216 < x
    · go_wp2_with fail
      exact ⟨_, res40 _ hr3 rfl rfl rfl, rfl, hfin.out⟩
    go_wp2_with fail
    refine hS.out.mono ?_
    rintro r w' ⟨rfl, rfl⟩
    have hlt : ((d.synced.now.length : Nat) : Int) < 64 + x := h'
    go_wp2_with fail
    exact ⟨_, res40 _ hr3 rfl rfl rfl, rfl, hfin.out⟩

def OpenPost (fp : Nat → Prop) (b : Nat) (d : DS) (n : Nat) (w : World) (r : Ending) (w' : World) : Prop :=
  (∃ L, items d.now (64 + n) (64 + n + 1) 64 = L.map (·, true) ∧ ∃ (jb : Nat) (vl : Value) (fp' : Nat → Prop), r = .returned (.tuple #[.pointer (some ⟨jb, 0, none⟩), vl, .int .i64 0]) ∧ w.heap.size ≤ jb ∧
    JHdr w' jb b ⟨L.length, bytesOf L, 64 + n, false⟩ ∧ Srow w' vl L ∧ (∀ k, Blk vl k → w.heap.size ≤ k ∧ k ≠ jb ∧ ¬ fp' k) ∧ DiskAt w' fp' b d.synced ∧ (∀ k, fp' k → grow fp w w' k ∧ k ≠ jb) ∧ Only fp w w') ∨
  ((∃ x ∈ items d.now (64 + n) (64 + n + 1) 64, x.2 = false) ∧ OpenBad fp b d.synced 11 w r w')

/-- What Open has made when the records pre have come. -/
structure LS (N0 b n n0 : Nat) (W : World) (vl : Value) (L : List (List UInt8)) : Prop where
  jh : JHdr W N0 b ⟨L.length, bytesOf L, 64 + n, false⟩
  pb : Boxed W (N0 + 1) 65 (.pointer (some ⟨N0, 0, none⟩))
  lb : Boxed W (N0 + 1 + 1) 64 vl
  row : Srow W vl L
  far : ∀ k, Blk vl k → N0 + 5 ≤ k
  rs : Res n0 W none none 0 0 0

def LSb (N0 n0 : Nat) (vl : Value) : Nat → Prop := fun k => k = N0 ∨ k = N0 + 1 ∨ k = N0 + 1 + 1 ∨ Blk vl k ∨ S3 n0 k

theorem LS.other {T : Nat → Prop} {N0 b n n0 : Nat} {W W' : World} {vl : Value} {L : List (List UInt8)} (h : LS N0 b n n0 W vl L) (ho : Only T W W') (hT : ∀ k, LSb N0 n0 vl k → ¬ T k) : LS N0 b n n0 W' vl L :=
  ⟨h.jh.other ho (hT _ (.inl rfl)), (ho.block _ h.pb.lt (hT _ (.inr (.inl rfl)))).trans h.pb, (ho.block _ h.lb.lt (hT _ (.inr (.inr (.inl rfl))))).trans h.lb, h.row.other ho (fun k hk => hT k (.inr (.inr (.inr (.inl hk))))), h.far,
   h.rs.other ho ⟨hT _ (.inr (.inr (.inr (.inr (.inl rfl))))), hT _ (.inr (.inr (.inr (.inr (.inr (.inl rfl)))))), hT _ (.inr (.inr (.inr (.inr (.inr (.inr rfl))))))⟩⟩

theorem srow_cells {W : World} {v : Value} {l : List (List UInt8)} (h : Srow W v l) {k : Nat} (hk : Blk v k) : ∃ o : Obj, W.heap[k]? = some o ∧ o.isCells = true := by
  rcases h.2 with ⟨rfl, _⟩ | ⟨g, cap, cur, rfl, _, hg, _⟩
  · simp [Blk, Value.ownBlock] at hk
  · simp [Blk, Value.ownBlock] at hk
    subst hk
    exact ⟨_, hg, rfl⟩

theorem Res.isCells {n0 : Nat} {W : World} {p ao : Option Addr} {len cap : Nat} {x : Int} (h : Res n0 W p ao len cap x) {k : Nat} (hk : S3 n0 k) : ∃ o : Obj, W.heap[k]? = some o ∧ o.isCells = true := by
  rcases hk with rfl | rfl | rfl
  · exact ⟨_, h.c2, rfl⟩
  · exact ⟨_, h.c3, rfl⟩
  · exact ⟨_, h.c4, rfl⟩

theorem LS.isCells {N0 b n n0 : Nat} {W : World} {vl : Value} {L : List (List UInt8)} (h : LS N0 b n n0 W vl L) {k : Nat} (hk : LSb N0 n0 vl k) : ∃ o : Obj, W.heap[k]? = some o ∧ o.isCells = true := by
  rcases hk with rfl | rfl | rfl | hk | hk
  · exact ⟨_, h.jh, rfl⟩
  · exact ⟨_, h.pb, rfl⟩
  · exact ⟨_, h.lb, rfl⟩
  · exact srow_cells h.row hk
  · exact h.rs.isCells hk

/-- The turn of a block that holds no cells. -/
theorem grown_only {W W' : World} {row : Option Nat} (hg : W.grownBy W' row) : Only (fun k => row = some k) W W' := Only.grown hg (fun _ h => h)
theorem not_row {W : World} {row : Option Nat} (hr : ∀ r, row = some r → ∃ o : Obj, W.heap[r]? = some o ∧ o.isCells = false) {k : Nat} (hk : ∃ o : Obj, W.heap[k]? = some o ∧ o.isCells = true) : ¬ row = some k := fun e => by
  obtain ⟨o, ho, hc⟩ := hk
  obtain ⟨o', ho', hc'⟩ := hr k e
  rw [ho] at ho'
  obtain rfl := Option.some.inj ho'
  rw [hc] at hc'; cases hc'

theorem keeps_only {T : Nat → Prop} {W W' : World} (ho : Only T W W') (hT : ∀ k, T k → k < W.heap.size → ∃ o : Obj, W.heap[k]? = some o ∧ o.isCells = true) : KeepsOthers W W' :=
  ⟨ho.size, fun k o hk hc => by
    rw [ho.block k (lt_of_heap hk) (fun ht => ?_)]; exact hk
    obtain ⟨o', ho', hc'⟩ := hT k ht (lt_of_heap hk)
    rw [hk] at ho'
    obtain rfl := Option.some.inj ho'
    rw [hc] at hc'; cases hc'⟩

theorem only_putObj {S : Nat → Prop} (W : World) (l : Nat) (o : Obj) (h : S l) : Only S W (W.putObj l o) := (grown_only (grownBy_putObj' W l o)).mono (fun k _ hk => by cases hk; exact h)

/-- The blocks that a round may change. -/
def LoopS (N0 : Nat) : Nat → Prop := fun k => k = N0 ∨ k = N0 + 1 + 1 ∨ N0 + 5 ≤ k

def recsL (pre : List RecA) : List (List UInt8) := pre.map (fun x => x.1.1)
theorem recsL_snoc (pre : List RecA) (x : RecA) : recsL (pre ++ [x]) = recsL pre ++ [x.1.1] := by simp [recsL]
theorem recsL_bytes (pre : List RecA) : bytesOf (recsL pre) ≤ pre.length * 16777232 ∧ (recsL pre).length = pre.length := by
  induction pre with
  | nil => simp [recsL, bytesOf]
  | cons x pre ih =>
    have hx := x.2
    have e : bytesOf (recsL (x :: pre)) = bytesOf (recsL pre) + x.1.1.length + 16 := by
      unfold bytesOf recsL
      rw [List.map_cons, enc_cons]
      simp
      omega
    have e2 : (recsL (x :: pre)).length = (recsL pre).length + 1 := by simp [recsL]
    rw [e, e2, List.length_cons]
    omega

def OpI (N0 b n n0 : Nat) (W0 : World) (pre : List RecA) (W : World) : Prop := (∀ x ∈ pre, x.1.2 = true) ∧ (∃ vl, LS N0 b n n0 W vl (recsL pre)) ∧ Only (LoopS N0) W0 W
def OpX (N0 n0 : Nat) (W0 : World) (c : Code) (pre : List RecA) (W : World) : Prop := (c = .ret ∧ (∃ x ∈ pre, x.1.2 = false) ∧ Res n0 W none none 0 0 11) ∧ Only (fun k => LoopS N0 k ∨ S3 n0 k) W0 W

theorem opI_own (N0 b n n0 : Nat) (W0 : World) (_hN : N0 + 5 ≤ W0.heap.size) : OwnFrom W0.heap.size (OpI N0 b n n0 W0) := fun s W W' row hs hg hr => by
  obtain ⟨h1, ⟨vl, h2⟩, h3⟩ := hs
  exact ⟨h1, ⟨vl, h2.other (grown_only hg) (fun k hk => not_row (fun r e => (hr r e).2) (h2.isCells hk))⟩, h3.trans (grown_only hg) (fun k _ hk => .inr (.inr (by have := (hr k hk).1; omega)))⟩
theorem opX_own (N0 n0 : Nat) (W0 : World) (_hN : N0 + 5 ≤ W0.heap.size) (c : Code) : OwnFrom W0.heap.size (OpX N0 n0 W0 c) := fun s W W' row hs hg hr => by
  obtain ⟨⟨h1, h2, h3⟩, h4⟩ := hs
  exact ⟨⟨h1, h2, h3.other (grown_only hg) ⟨not_row (fun r e => (hr r e).2) (h3.isCells (.inl rfl)), not_row (fun r e => (hr r e).2) (h3.isCells (.inr (.inl rfl))), not_row (fun r e => (hr r e).2) (h3.isCells (.inr (.inr rfl)))⟩⟩, h4.trans (grown_only hg) (fun k _ hk => .inl (.inr (.inr (by have := (hr k hk).1; omega))))⟩

theorem heap_alloc_list (w : World) (o : Obj) : (w.alloc o).heap.toList = w.heap.toList ++ [o] := by
  unfold World.alloc
  simp
/-- The world in which the loop begins. -/
def loopW (w : World) (b n : Nat) : World :=
  ((((w.alloc (.cells #[.pointer (some ⟨b, 0, none⟩), .int .i64 0, .int .i64 0, .int .i64 (64 + (n : Int)), .bool false] 96)).alloc (.cells #[.pointer (some ⟨w.heap.size, 0, none⟩)] 65)).alloc (.cells #[.slice none 0 0] 64)).alloc (.cells #[.pointer (some ⟨b, 0, none⟩)] 25)).alloc (.cells #[.int .i64 (64 + (n : Int))] 3)

theorem loopW_at (w : World) (b n n0 : Nat) (hr : Res n0 w none none 0 0 0) : LS w.heap.size b n n0 (loopW w b n) (.slice none 0 0) [] ∧ (loopW w b n).heap.size = w.heap.size + 5 ∧ Only Nob w (loopW w b n) ∧
    (loopW w b n).cell? ⟨w.heap.size + 1 + 1 + 1 + 1, 0, none⟩ = some (.int .i64 ((64 + n : Nat) : Int)) ∧ (loopW w b n).cell? ⟨w.heap.size + 1 + 1 + 1, 0, none⟩ = some (.pointer (some ⟨b, 0, none⟩)) := by
  have o : Only Nob w (loopW w b n) := (Only.alloc Nob _ _).trans ((Only.alloc Nob _ _).trans ((Only.alloc Nob _ _).trans ((Only.alloc Nob _ _).trans (Only.alloc Nob _ _) (fun _ _ h => h)) (fun _ _ h => h)) (fun _ _ h => h)) (fun _ _ h => h)
  have hz : (loopW w b n).heap.size = w.heap.size + 5 := by simp [loopW]
  have hat : ∀ i, (loopW w b n).heap[w.heap.size + i]? = [Obj.cells #[.pointer (some ⟨b, 0, none⟩), .int .i64 0, .int .i64 0, .int .i64 (64 + (n : Int)), .bool false] 96 (0, 0), .cells #[.pointer (some ⟨w.heap.size, 0, none⟩)] 65 (0, 0), .cells #[.slice none 0 0] 64 (0, 0), .cells #[.pointer (some ⟨b, 0, none⟩)] 25 (0, 0), .cells #[.int .i64 (64 + (n : Int))] 3 (0, 0)][i]? := by
    intro i
    have e : (loopW w b n).heap.toList = w.heap.toList ++ [Obj.cells #[.pointer (some ⟨b, 0, none⟩), .int .i64 0, .int .i64 0, .int .i64 (64 + (n : Int)), .bool false] 96 (0, 0), .cells #[.pointer (some ⟨w.heap.size, 0, none⟩)] 65 (0, 0), .cells #[.slice none 0 0] 64 (0, 0), .cells #[.pointer (some ⟨b, 0, none⟩)] 25 (0, 0), .cells #[.int .i64 (64 + (n : Int))] 3 (0, 0)] := by
      simp only [loopW, heap_alloc_list, List.append_assoc, List.cons_append, List.nil_append]
    rw [← Array.getElem?_toList, e, List.getElem?_append_right (by simp)]
    simp
  refine ⟨⟨?_, hat 1, hat 2, Srow.nil _, fun k hk => by simp [Blk, Value.ownBlock] at hk, hr.other o ⟨fun h => h, fun h => h, fun h => h⟩⟩, hz, o, ?_, ?_⟩
  · have := hat 0
    unfold JHdr
    simpa [bytesOf] using this
  · have := hat 4
    simp [World.cell?, this]
  · have := hat 3
    simp [World.cell?, this]

end Go.Proofs.Ytdpebdghhgojaaa
