/- strings.Builder: its writers, with a frame that tells each block that they change. -/
import Derived.Test.YtddjbfmohibgbaaDoorOwn
import Derived.Test.YtddjbfmohibgbaaDoorShelf
import Derived.Lib.Builder
namespace Go.Proofs.YtddjbfmohibgbaaDoor
open Go.RowKit

theorem Tryd.info5 : (Tryd.prog.info? 5).map (fun i => (i.zero, i.size, i.bytes)) = some (some (.int .u8 0), 1, 1) := by kernel_rfl
theorem Tryd.info123 : (Tryd.prog.info? 123).map (·.size) = some 2 := by kernel_rfl
theorem Tryd.lies123 : liesAt Tryd.prog Tryd.prog.depth 123 (2 / Tryd.prog.cellsOf 123) 0 123 1 = true := by kernel_rfl

/-- A builder in the block b, its buffer v holding the bytes l. -/
def Bd (w : World) (b : Nat) (v : Value) (l : List UInt8) : Prop :=
  ∃ p, (p = .pointer none ∨ p = .pointer (some ⟨b, 0, none⟩)) ∧ w.heap[b]? = some (.cells #[p, v] 123 (0, 0)) ∧ w.ownsRow 0 5 1 v l.length (cellsB l) ∧ v.ownBlock ≠ some b

theorem Bd.lt {w : World} {b : Nat} {v : Value} {l : List UInt8} (h : Bd w b v l) : b < w.heap.size := by
  obtain ⟨p, _, hb, _⟩ := h
  exact lt_of_heap hb
theorem Bd.other {S : Nat → Prop} {w w' : World} {b : Nat} {v : Value} {l : List UInt8} (h : Bd w b v l) (ho : Only S w w') (hb : ¬ S b) (hn : ∀ k, Blk v k → ¬ S k) : Bd w' b v l := by
  obtain ⟨p, hp, h1, h2, h3⟩ := h
  exact ⟨p, hp, (ho.block b (lt_of_heap h1) hb).trans h1, Own.other h2 ho hn, h3⟩
theorem Bd.new (w : World) : Bd (w.alloc (.cells #[.pointer none, .slice none 0 0] 123)) w.heap.size (.slice none 0 0) [] :=
  ⟨_, .inl rfl, heap_alloc_new w _, World.ownsRow_nil _ _ _ _, by simp [Value.ownBlock]⟩
theorem Bd.blk {w : World} {b : Nat} {v : Value} {l : List UInt8} (h : Bd w b v l) {k : Nat} (hk : Blk v k) : k < w.heap.size ∧ k ≠ b := by
  obtain ⟨p, _, _, h2, h3⟩ := h
  exact ⟨Own.lt h2 hk, fun e => h3 (by rw [← e]; exact hk)⟩
/-- The shelf's word for it. -/
theorem Bd.is {w : World} {b : Nat} {v : Value} {l : List UInt8} (h : Bd w b v l) (B : Nat) (hB : B ≤ b) (hv : ∀ k, Blk v k → B ≤ k) : Lib.IsBuilder 123 5 B b (Lib.byteCells l) w := by
  obtain ⟨p, hp, h1, h2, h3⟩ := h
  have e : Lib.byteCells l = cellsB l := rfl
  have h5 : w.ownsRow B 5 1 v l.length (cellsB l) := by
    refine ⟨h2.1, ?_⟩
    rcases h2.2 with h | ⟨g, cap, cur, rfl, _, r⟩
    · exact .inl h
    · exact .inr ⟨g, cap, cur, rfl, hv g rfl, r⟩
  have h4 : Lib.BuilderAt 123 5 B b p (Lib.byteCells l) w := ⟨hB, v, h1, by rw [e, length_cellsB]; exact h5, h3⟩
  rcases hp with rfl | rfl
  · exact .inl h4
  · exact .inr h4

theorem Bd.cells {w : World} {b : Nat} {v : Value} {l : List UInt8} (h : Bd w b v l) : w.cell? ⟨b, 1, none⟩ = some v ∧ w.frozen? ⟨b, 1, none⟩ = false ∧ w.frozen? ⟨b, 0, none⟩ = false ∧ w.shape? b = some (123, 2) := by
  obtain ⟨p, _, h1, _⟩ := h
  simp [World.cell?, World.frozen?, World.shape?, h1]

/-- Behind the check the builder is used. -/
def Bu (w : World) (b : Nat) (v : Value) (l : List UInt8) : Prop :=
  w.heap[b]? = some (.cells #[.pointer (some ⟨b, 0, none⟩), v] 123 (0, 0)) ∧ w.ownsRow 0 5 1 v l.length (cellsB l) ∧ v.ownBlock ≠ some b

set_option maxHeartbeats 1000000 in
set_option maxRecDepth 100000 in
theorem check_any (b : Nat) (v : Value) (l : List UInt8) (w : World) (h : Bd w b v l) :
    Calls Tryd.prog 127 #[.pointer (some ⟨b, 0, none⟩)] w fun e w' => e = .returned (.tuple #[]) ∧ Bu w' b v l ∧ Only (Is b) w w' := by
  obtain ⟨j, hj, hjs⟩ := Option.map_eq_some_iff.1 Tryd.info123
  obtain ⟨-, -, hfz, hsh⟩ := h.cells
  obtain ⟨p, hp, h1, h2, h3⟩ := h
  rcases hp with rfl | rfl
  · have h0 : w.cell? ⟨b, 0, none⟩ = some (.pointer none) := by rw [Lib.cell_of_heap h1]; rfl
    have HW : Hid (Bu (w.setCell ⟨b, 0, none⟩ (.pointer (some ⟨b, 0, none⟩))) b v l ∧ Only (Is b) w (w.setCell ⟨b, 0, none⟩ (.pointer (some ⟨b, 0, none⟩)))) := by
      refine ⟨⟨heap_setCell_same w b 0 _ 123 _ h1, ?_, h3⟩, Only.setCell _ _ _ rfl⟩
      exact Own.other h2 (Only.setCell (S := Is b) w ⟨b, 0, none⟩ _ rfl) (fun k hk e => h3 (by rw [← (show k = b from e)]; exact hk))
    clear h1 h2 h3
    go_enter Tryd.func127, Tryd.ntmps127
    go_wp2
    rw [Lib.run_to_unsafe w ⟨b, 0, none⟩ Tryd.underlying121 Tryd.underlying151 hj (by rw [hjs]; decide) hsh (Nat.zero_lt_succ 1)]
    simp only [Result.andThen]
    rw [Oper.upon_value]
    go_wp2
    rw [run_callFunc_extern Tryd.func134 (by kernel_rfl) (by kernel_rfl) (by kernel_rfl) (e := Extern.AbiNoEscape.same) (by kernel_rfl)]
    rw [Lib.run_noEscape]
    simp only [Result.andThen]
    rw [Oper.upon_value]
    go_wp2
    rw [Lib.run_from_unsafe w ⟨b, 0, none⟩ Tryd.underlying151 Tryd.underlying121 hj hsh Tryd.lies123]
    simp only [Result.andThen]
    rw [Oper.upon_value]
    go_wp2
    go_end0
    exact ⟨rfl, HW.out⟩
  · have h0 : w.cell? ⟨b, 0, none⟩ = some (.pointer (some ⟨b, 0, none⟩)) := by rw [Lib.cell_of_heap h1]; rfl
    have HW : Hid (Bu w b v l ∧ Only (Is b) w w) := ⟨⟨h1, h2, h3⟩, Only.refl _ _⟩
    clear h1 h2 h3
    go_enter Tryd.func127, Tryd.ntmps127
    go_wp2
    rw [Lib.run_neq_ptr_same w _ Tryd.underlying121 hj]
    go_wp2
    go_end0
    exact ⟨rfl, HW.out⟩

/-- What a writer says. -/
def WrPost (b : Nat) (v : Value) (l : List UInt8) (r : Value) (w : World) (e : Ending) (w' : World) : Prop :=
  ∃ v', e = .returned r ∧ Bd w' b v' l ∧ Only (fun k => k = b ∨ Blk v k) w w' ∧ (∀ k, Blk v' k → Blk v k ∨ w.heap.size ≤ k)

theorem wr_end {b : Nat} {v v' : Value} {l s : List UInt8} {w w1 w2 : World} {r : Value} (h1 : Bu w1 b v l) (o1 : Only (Is b) w w1)
    (hown : w2.ownsRow 0 5 1 v' (l ++ s).length (cellsB (l ++ s))) (o2 : Only (Blk v) w1 w2) (hf : ∀ k, Blk v' k → Blk v k ∨ w1.heap.size ≤ k) :
    WrPost b v (l ++ s) r w (.returned r) (w2.setCell ⟨b, 1, none⟩ v') := by
  obtain ⟨hb, hr, hne⟩ := h1
  have hlt := lt_of_heap hb
  have hb2 : w2.heap[b]? = some (.cells #[.pointer (some ⟨b, 0, none⟩), v] 123 (0, 0)) := (o2.block b hlt hne).trans hb
  have hnv : v'.ownBlock ≠ some b := fun e => by
    rcases hf b e with h | h
    · exact hne h
    · omega
  refine ⟨v', rfl, ⟨_, .inr rfl, heap_setCell_same w2 b 1 _ 123 _ hb2, ?_, hnv⟩, ?_, fun k hk => ?_⟩
  · exact Own.other hown (Only.setCell (S := Is b) w2 ⟨b, 1, none⟩ _ rfl) (fun k hk e => hnv (by rw [← (show k = b from e)]; exact hk))
  · exact ((o1.mono (fun _ _ h => Or.inl h)).trans (o2.mono (T := fun k => k = b ∨ Blk v k) (fun _ _ h => Or.inr h)) (fun _ _ h => h)).trans (Only.setCell (S := fun k => k = b ∨ Blk v k) w2 ⟨b, 1, none⟩ _ (Or.inl rfl)) (fun _ _ h => h)
  · have := o1.size
    rcases hf k hk with h | h
    · exact .inl h
    · exact .inr (by omega)

set_option maxHeartbeats 2000000 in
set_option maxRecDepth 100000 in
theorem write_string (b : Nat) (v : Value) (l : List UInt8) (s : ByteArray) (w : World) (h : Bd w b v l) (hlen : l.length + s.size ≤ 140737488355328) :
    Calls Tryd.prog 100 #[.pointer (some ⟨b, 0, none⟩), .string s] w (WrPost b v (l ++ s.data.toList) (.tuple #[.int .i64 s.size, .nilIface]) w) := by
  obtain ⟨i0, hi, hz0, hz1, hz2⟩ := info_parts Tryd.info5
  go_enter Tryd.func100, Tryd.ntmps100
  go_wp2_with (go_at_call 127; refine (check_any b v l _ h).mono ?_)
  rintro e w1 ⟨rfl, h1, o1⟩
  have H1 := Lib.hid h1
  obtain ⟨hb, hr, hne⟩ := h1
  have c1 : w1.cell? ⟨b, 1, none⟩ = some v := by rw [Lib.cell_of_heap hb]; rfl
  have hlt := lt_of_heap hb
  clear h
  go_wp2_with (at_builtin; refine wpList_append_own_string_f rfl _ _ 41 9 rfl 5 i0 Tryd.underlying41 Tryd.underlying9 hi hz0 hz1 hz2 _ _ _ rfl hr s rfl ?c3 ?c4 ?_)
  case c3 => unfold maxLen; omega
  case c4 => omega
  intro v' w2 hown' hgrow hfr
  have o2 : Only (Blk v) w1 w2 := Only.grown hgrow (fun k hk => hk)
  have hb2 : w2.heap[b]? = some (.cells #[.pointer (some ⟨b, 0, none⟩), v] 123 (0, 0)) := (o2.block b hlt hne).trans hb
  have d1 : w2.cell? ⟨b, 1, none⟩ = some v := by rw [Lib.cell_of_heap hb2]; rfl
  have f1 : w2.frozen? ⟨b, 1, none⟩ = false := Lib.frozen_of_heap hb2 1
  have hown2 : w2.ownsRow 0 5 1 v' (l ++ s.data.toList).length (cellsB (l ++ s.data.toList)) := by
    have e : cellsB (l ++ s.data.toList) = cellsB l ++ Lib.strCells s := cellsB_append _ _
    rw [e, List.length_append]
    simpa using hown'
  have HE := Lib.hid (wr_end (s := s.data.toList) (r := .tuple #[.int .i64 s.size, .nilIface]) H1.out o1 hown2 o2 hfr)
  obtain ⟨ao, n', cap, rfl⟩ : ∃ ao n' cap, v' = .slice ao n' cap := by
    rcases hown'.2 with ⟨hv, _⟩ | ⟨g, cap, cur, hv, _⟩
    · exact ⟨_, _, _, hv⟩
    · exact ⟨_, _, _, hv⟩
  clear hown' hown2 hgrow hfr o2 hb2 hb hr hne hlt c1 H1 o1
  go_wp2
  go_ret2
  exact HE.out

set_option maxHeartbeats 2000000 in
set_option maxRecDepth 100000 in
theorem write_byte (b : Nat) (v : Value) (l : List UInt8) (c : UInt8) (w : World) (h : Bd w b v l) (hlen : l.length + 1 ≤ 140737488355328) :
    Calls Tryd.prog 103 #[.pointer (some ⟨b, 0, none⟩), .int .u8 c.toNat] w (WrPost b v (l ++ [c]) .nilIface w) := by
  obtain ⟨i0, hi, hz0, hz1, hz2⟩ := info_parts Tryd.info5
  go_enter Tryd.func103, Tryd.ntmps103
  go_wp2_with (go_at_call 127; refine (check_any b v l _ h).mono ?_)
  rintro e w1 ⟨rfl, h1, o1⟩
  obtain ⟨hb, hr, hne⟩ := h1
  have hlt := lt_of_heap hb
  have oa : Only Nob w1 (w1.alloc (.cells #[.int .u8 c.toNat] 5)) := Only.alloc _ _ _
  have hb' : (w1.alloc (.cells #[.int .u8 c.toNat] 5)).heap[b]? = some (.cells #[.pointer (some ⟨b, 0, none⟩), v] 123 (0, 0)) := (oa.block b hlt (fun h => h)).trans hb
  have hr' := Own.other hr oa (fun _ _ h => h)
  have H1 := Lib.hid (show Bu (w1.alloc (.cells #[.int .u8 c.toNat] 5)) b v l from ⟨hb', hr', hne⟩)
  have O1 := Lib.hid (o1.trans (oa.mono (T := Is b) (fun _ _ h => h.elim)) (fun _ _ h => h))
  have c1 : w1.cell? ⟨b, 1, none⟩ = some v := by rw [Lib.cell_of_heap hb]; rfl
  clear h
  go_wp2_with (at_builtin; refine wpList_append_own_f rfl _ _ 41 rfl 5 i0 (.int .u8 0) 1 1 Tryd.underlying41 hi hz0 hz1 hz2 rfl (by decide) _ _ _ rfl hr' ⟨w1.heap.size, 0, none⟩ 1 1 [.int .u8 c.toNat] rfl rfl ?c1 ?c2 ?c3 ?c4 ?_)
  case c1 =>
    intro j u hj
    match j, hj with
    | 0, hj => simp at hj; subst hj; simp [Addr.add]
  case c2 => intro u hu; simp at hu; subst hu; rfl
  case c3 => unfold maxLen; omega
  case c4 => omega
  intro v' w2 hown' hgrow hfr _
  have o2 : Only (Blk v) (w1.alloc (.cells #[.int .u8 c.toNat] 5)) w2 := Only.grown hgrow (fun k hk => hk)
  have hb2 : w2.heap[b]? = some (.cells #[.pointer (some ⟨b, 0, none⟩), v] 123 (0, 0)) := (o2.block b (lt_of_heap hb') hne).trans hb'
  have d1 : w2.cell? ⟨b, 1, none⟩ = some v := by rw [Lib.cell_of_heap hb2]; rfl
  have f1 : w2.frozen? ⟨b, 1, none⟩ = false := Lib.frozen_of_heap hb2 1
  have hown2 : w2.ownsRow 0 5 1 v' (l ++ [c]).length (cellsB (l ++ [c])) := by
    have e : cellsB (l ++ [c]) = cellsB l ++ [.int .u8 c.toNat] := cellsB_append _ _
    rw [e, List.length_append]
    simpa using hown'
  have HE := Lib.hid (wr_end (s := [c]) (r := .nilIface) H1.out O1.out hown2 o2 (fun k hk => by rw [World.size_alloc]; exact hfr k hk))
  obtain ⟨ao, n', cap, rfl⟩ : ∃ ao n' cap, v' = .slice ao n' cap := by
    rcases hown'.2 with ⟨hv, _⟩ | ⟨g, cap, cur, hv, _⟩
    · exact ⟨_, _, _, hv⟩
    · exact ⟨_, _, _, hv⟩
  clear hown' hown2 hgrow hfr o2 hb2 hb hr hne hlt c1 H1 o1 O1 hb' hr' oa
  go_wp2
  go_ret
  exact HE.out

theorem bd_string (B b : Nat) (v : Value) (l : List UInt8) (w : World) (h : Bd w b v l) (hB : B ≤ b) (hv : ∀ k, Blk v k → B ≤ k) :
    Calls Tryd.prog 104 #[.pointer (some ⟨b, 0, none⟩)] w fun e w' => e = .returned (.string ⟨l.toArray⟩) ∧ Below B w w' :=
  Tryd.Builder_String_any B b l w (h.is B hB hv) (by have := h.lt; omega)

end Go.Proofs.YtddjbfmohibgbaaDoor
