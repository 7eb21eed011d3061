/-
  strings.Builder's writers (this translation's copy check refuses a builder that was copied); the closure of Print.
-/
import Derived.Test.YtmndjicaofciiaaGreatDoorW0
import Derived.Test.YtmndjicaofciiaaGreatDoorT1
import Derived.Lib.FrozenHead2
import Derived.Lib.OthersKept
import Derived.Lib.Builder
namespace Go.Proofs.YtmndjicaofciiaaGreatDoor
open Go.RowKit Go.Shelf

/-- A builder that holds l. -/
abbrev Bld (B b : Nat) (l : List UInt8) (W : World) : Prop := Lib.IsBuilderF 75 5 B b (Lib.byteCells l) W
/-- What a writer leaves as it was. -/
structure Wrote (B b : Nat) (W W' : World) : Prop where
  below : Below B W W'
  others : Lib.OthersKept 5 (some b) W W'
theorem Wrote.trans {B b : Nat} {W W' W'' : World} (h : Wrote B b W W') (k : Wrote B b W' W'') : Wrote B b W W'' := ⟨h.below.trans k.below, h.others.trans k.others⟩
theorem infoByte : (Tryz.prog.info? 5).map (fun i => (i.zero, i.size, i.bytes)) = some (some (.int .u8 0), 1, 1) := by kernel_rfl
theorem sizeBld : (Tryz.prog.info? 75).map (·.size) = some 2 := by kernel_rfl
set_option maxRecDepth 100000 in
set_option maxHeartbeats 1000000 in
theorem copyCheck_fresh (B b : Nat) (cs : List Value) (w : World) (h : Lib.BuilderAtF 75 5 B b (.pointer none) cs w) : Calls Tryz.prog 38 #[ptr b] w fun e w' => e = .returned (.tuple #[]) ∧ w' = w.setCell ⟨b, 0, none⟩ (ptr b) := by
  have c0 := h.cell0
  have f0 := h.frozen0
  have hsh := h.shape
  obtain ⟨i, hi, his⟩ := Option.map_eq_some_iff.1 sizeBld
  have h44 := @run_callFunc_extern Tryz.prog 51 _ Extern.AbiNoEscape.same Tryz.func51 (by kernel_rfl) (by kernel_rfl) (by kernel_rfl) (by kernel_rfl)
  go_enter Tryz.func38, Tryz.ntmps38
  go_wp2_with fail
  rw [Lib.run_to_unsafe w ⟨b, 0, none⟩ Tryz.underlying72 Tryz.underlying112 hi (by rw [his]; decide) hsh (show (0 : Nat) < 2 by decide)]
  simp only [Result.andThen]
  rw [Oper.upon_value]
  go_wp2_with fail
  rw [Lib.run_noEscape]
  simp only [Result.andThen]
  rw [Oper.upon_value]
  go_wp2_with fail
  rw [Lib.run_from_unsafe w ⟨b, 0, none⟩ Tryz.underlying112 Tryz.underlying72 hi hsh (by kernel_rfl)]
  simp only [Result.andThen]
  rw [Oper.upon_value]
  go_wp2_with fail
  go_end0
  exact ⟨rfl, rfl⟩
set_option maxRecDepth 100000 in
set_option maxHeartbeats 1000000 in
theorem copyCheck_used (B b : Nat) (cs : List Value) (w : World) (h : Lib.BuilderAtF 75 5 B b (ptr b) cs w) : Calls Tryz.prog 38 #[ptr b] w fun e w' => e = .returned (.tuple #[]) ∧ w' = w := by
  have c0 := h.cell0
  obtain ⟨i, hi, his⟩ := Option.map_eq_some_iff.1 sizeBld
  have hne := Lib.run_neq_ptr_same (P := Tryz.prog) w ⟨b, 0, none⟩ Tryz.underlying72 hi
  go_enter Tryz.func38, Tryz.ntmps38
  go_wp2_with fail
  go_end0
  exact ⟨rfl, rfl⟩
theorem copyCheck_any (B b : Nat) (l : List UInt8) (w : World) (h : Bld B b l w) : Calls Tryz.prog 38 #[ptr b] w fun e w' => e = .returned (.tuple #[]) ∧ Lib.BuilderAtF 75 5 B b (ptr b) (Lib.byteCells l) w' ∧ Wrote B b w w' := by
  rcases h with h | h
  · refine (copyCheck_fresh B b _ w h).mono ?_
    rintro e w' ⟨rfl, rfl⟩
    exact ⟨rfl, h.used _, (Below.refl B w).setCell (p := ⟨b, 0, none⟩) h.1 _, (Lib.OthersKept.refl _ _ w).setCell ⟨b, 0, none⟩ rfl _⟩
  · refine (copyCheck_used B b _ w h).mono ?_
    rintro e w' ⟨rfl, rfl⟩
    exact ⟨rfl, h, Below.refl B _, Lib.OthersKept.refl _ _ _⟩
theorem byteCells_snoc (l : List UInt8) (c : UInt8) : Lib.byteCells (l ++ [c]) = Lib.byteCells l ++ [.int .u8 (c.toNat : Int)] := by simp [Lib.byteCells]
theorem byteCells_app (l : List UInt8) (s : ByteArray) : Lib.byteCells (l ++ s.data.toList) = Lib.byteCells l ++ Lib.strCells s := by simp [Lib.byteCells, Lib.strCells]
theorem byteCells_len (l : List UInt8) : (Lib.byteCells l).length = l.length := by simp [Lib.byteCells]
theorem Bld.lt {B b : Nat} {l : List UInt8} {W : World} (h : Bld B b l W) : b < W.heap.size := by
  rcases h with h | h <;> exact h.lt
set_option maxRecDepth 100000 in
set_option maxHeartbeats 2000000 in
theorem writeByte_any (B b : Nat) (l : List UInt8) (c : UInt8) (w : World) (h : Bld B b l w) (hl : l.length ≤ 1000000) (hBw : B ≤ w.heap.size) : Calls Tryz.prog 24 #[ptr b, .int .u8 (c.toNat : Int)] w fun e w' => e = .returned .nilIface ∧ Bld B b (l ++ [c]) w' ∧ Wrote B b w w' := by
  obtain ⟨i0, hi, hz0, hz1, hz2⟩ := info_parts infoByte
  rw [← byteCells_len l] at hl
  have HSN := Lib.hid (byteCells_snoc l c)
  have HCC := Lib.hid (copyCheck_any B b l w h)
  generalize Lib.byteCells l = cs at *
  clear h
  go_enter Tryz.func24, Tryz.ntmps24
  go_wp2_with fail
  with_reducible refine HCC.out.mono ?_
  rintro e w1 ⟨rfl, h1, hw1⟩
  have HW1 := Lib.hid hw1
  clear hw1 HCC
  obtain ⟨hB, v, hbk, hown, hne⟩ := h1
  have c0 : w1.cell? ⟨b, 0, none⟩ = some (ptr b) := by rw [Lib.cell_of_heap hbk]; rfl
  have c1 : w1.cell? ⟨b, 1, none⟩ = some v := by rw [Lib.cell_of_heap hbk]; rfl
  go_wp2_with (at_builtin; refine wpList_append_ownF _ rfl _ _ 73 rfl B 5 i0 (.int .u8 0) 1 1 Tryz.underlying73 hi hz0 hz1 hz2 rfl (by decide) _ _ _ rfl (hown.alloc _) ⟨w1.heap.size, 0, none⟩ 1 1 [.int .u8 (c.toNat : Int)] rfl rfl ?c1 ?c2 ?c3 ?c4 ?c5 ?_)
  case c1 =>
    intro j u hj
    match j, hj with
    | 0, hj => simp at hj; subst hj; simp [Addr.add]
  case c2 => intro u hu; simp at hu; subst hu; rfl
  case c3 => unfold maxLen; omega
  case c4 => omega
  case c5 => have := HW1.out.below.size; simp; omega
  intro v' w2 hown' hgrow _
  have hlt : b < w1.heap.size := by
    rcases Nat.lt_or_ge b w1.heap.size with h' | h'
    · exact h'
    · simp [Array.getElem?_eq_none h'] at hbk
  have hb2 : w2.heap[b]? = some (.cells #[ptr b, v] 75 (0, 0)) := by
    rw [hgrow.block b (by simp; omega) (fun e => hne e.symm), Lib.alloc_old w1 _ b hlt]
    exact hbk
  have d0 : w2.cell? ⟨b, 0, none⟩ = some (ptr b) := by rw [Lib.cell_of_heap hb2]; rfl
  have d1 : w2.cell? ⟨b, 1, none⟩ = some v := by rw [Lib.cell_of_heap hb2]; rfl
  have f1 : w2.frozen? ⟨b, 1, none⟩ = false := Lib.frozen_of_heap hb2 1
  have hbl := HW1.out.below
  have hot := HW1.out.others
  obtain ⟨g, cap, rfl⟩ : ∃ g cap, v' = .slice (some ⟨g, 0, none⟩) (cs.length + 1) cap := by
    rcases hown'.2 with ⟨_, h0⟩ | ⟨g, cap, cur, fz, hv, _⟩
    · omega
    · exact ⟨g, cap, hv⟩
  go_wp2_with fail
  go_ret
  refine ⟨rfl, .inr ?_, ?_, ((hot.alloc _).grown hgrow (Lib.ownsRowF_kind (hown.alloc _))).setCell ⟨b, 1, none⟩ rfl _⟩
  · rw [HSN.out]
    exact Lib.BuilderAtF.put (T := 75) (e := 5) hB hb2 (by simpa using hown') (by decide)
  · exact ((hbl.alloc (by have := hbl.size; omega) _).grown hgrow (by have := hbl.size; simp; omega) (fun k hk => (hown.lt k hk).1)).setCell (p := ⟨b, 1, none⟩) hB _
set_option maxRecDepth 100000 in
set_option maxHeartbeats 2000000 in
theorem writeString_any (B b : Nat) (l : List UInt8) (s : ByteArray) (w : World) (h : Bld B b l w) (hl : l.length + s.size ≤ 1000000) (hBw : B ≤ w.heap.size) : Calls Tryz.prog 22 #[ptr b, .string s] w fun e w' => e = .returned (.tuple #[.int .i64 s.size, .nilIface]) ∧ Bld B b (l ++ s.data.toList) w' ∧ Wrote B b w w' := by
  obtain ⟨i0, hi, hz0, hz1, hz2⟩ := info_parts infoByte
  rw [← byteCells_len l] at hl
  have HSN := Lib.hid (byteCells_app l s)
  have HCC := Lib.hid (copyCheck_any B b l w h)
  generalize Lib.byteCells l = cs at *
  clear h
  go_enter Tryz.func22, Tryz.ntmps22
  go_wp2_with fail
  with_reducible refine HCC.out.mono ?_
  rintro e w1 ⟨rfl, h1, hw1⟩
  have HW1 := Lib.hid hw1
  clear hw1 HCC
  obtain ⟨hB, v, hbk, hown, hne⟩ := h1
  have c0 : w1.cell? ⟨b, 0, none⟩ = some (ptr b) := by rw [Lib.cell_of_heap hbk]; rfl
  have c1 : w1.cell? ⟨b, 1, none⟩ = some v := by rw [Lib.cell_of_heap hbk]; rfl
  go_wp2_with (at_builtin; refine Lib.wpList_append_own_stringF _ rfl _ _ 73 9 rfl B 5 i0 Tryz.underlying73 Tryz.underlying9 hi hz0 hz1 hz2 _ _ _ rfl hown s rfl ?c3 ?c4 ?c5 ?_)
  case c3 => unfold maxLen; omega
  case c4 => omega
  case c5 => have := HW1.out.below.size; omega
  intro v' w2 hown' hgrow _
  have hlt : b < w1.heap.size := by
    rcases Nat.lt_or_ge b w1.heap.size with h' | h'
    · exact h'
    · simp [Array.getElem?_eq_none h'] at hbk
  have hb2 : w2.heap[b]? = some (.cells #[ptr b, v] 75 (0, 0)) := by
    rw [hgrow.block b hlt (fun e => hne e.symm)]
    exact hbk
  have d0 : w2.cell? ⟨b, 0, none⟩ = some (ptr b) := by rw [Lib.cell_of_heap hb2]; rfl
  have d1 : w2.cell? ⟨b, 1, none⟩ = some v := by rw [Lib.cell_of_heap hb2]; rfl
  have f1 : w2.frozen? ⟨b, 1, none⟩ = false := Lib.frozen_of_heap hb2 1
  have hbl := HW1.out.below
  have hot := HW1.out.others
  obtain ⟨ao, n', cap, rfl⟩ : ∃ ao n' cap, v' = .slice ao n' cap := by
    rcases hown'.2 with ⟨hv, _⟩ | ⟨g, cap, cur, fz, hv, _⟩
    · exact ⟨_, _, _, hv⟩
    · exact ⟨_, _, _, hv⟩
  go_wp2_with fail
  go_ret2
  refine ⟨rfl, .inr ?_, ?_, (hot.grown hgrow (Lib.ownsRowF_kind hown)).setCell ⟨b, 1, none⟩ rfl _⟩
  · rw [HSN.out]
    exact Lib.BuilderAtF.put (T := 75) (e := 5) hB hb2 (by simpa [Lib.strCells_length] using hown') (by decide)
  · exact (hbl.grown hgrow (by have := hbl.size; omega) (fun k hk => (hown.lt k hk).1)).setCell (p := ⟨b, 1, none⟩) hB _
set_option maxRecDepth 100000 in
set_option maxHeartbeats 2000000 in
/-- A space and a word. -/
theorem put_any (B b : Nat) (l : List UInt8) (s : ByteArray) (w : World) (h : Bld B b l w) (hl : l.length + s.size ≤ 100000) (hBw : B ≤ w.heap.size) : Calls Tryz.prog 23 #[.string s, ptr b] w fun e w' => e = .returned (.tuple #[]) ∧ Bld B b (l ++ 32 :: s.data.toList) w' ∧ Wrote B b w w' := by
  have H1 := Lib.hid (writeByte_any B b l 32 w h (by omega) hBw)
  have H2 : Hid (∀ W, Bld B b (l ++ [32]) W → B ≤ W.heap.size → Calls Tryz.prog 22 #[ptr b, .string s] W fun e w' => e = .returned (.tuple #[.int .i64 s.size, .nilIface]) ∧ Bld B b ((l ++ [32]) ++ s.data.toList) w' ∧ Wrote B b W w') := Lib.hid (fun W hW hB => writeString_any B b (l ++ [32]) s W hW (by simp; omega) hB)
  have e32 : ((32 : UInt8).toNat : Int) = 32 := rfl
  rw [e32] at H1
  clear h e32
  go_enter Tryz.func23, Tryz.ntmps23
  go_wp2_with fail
  with_reducible refine H1.out.mono ?_
  rintro e w1 ⟨rfl, h1, hw1⟩
  have HW1 := Lib.hid hw1
  have HB1 := Lib.hid h1
  clear h1 hw1 H1
  go_wp2_with fail
  with_reducible refine (H2.out _ HB1.out (Nat.le_trans hBw HW1.out.below.size)).mono ?_
  rintro e w2 ⟨rfl, h2, hw2⟩
  have HW2 := Lib.hid hw2
  have HB2 := Lib.hid h2
  clear h2 hw2
  go_wp2_with fail
  go_end0
  refine ⟨rfl, ?_, HW1.out.trans HW2.out⟩
  have := HB2.out
  simpa using this
end Go.Proofs.YtmndjicaofciiaaGreatDoor
