/-
  The arrays of SketchBounds; both sketches with them.
-/
import Derived.Test.YtogkkghliogpeaaM1
import Derived.Test.YtogkkghliogpeaaL1
import Derived.Test.YtogkkghliogpeaaJ1
import Derived.Deep.MidRow
namespace Go.Proofs.Ytogkkghliogpeaa
open Go.RowKit Go.Shelf

/-- The ten cells of an array. -/
def ArrF (W : World) (xb : Nat) (g : Nat → Int) : Prop := ∀ j, j < 10 → W.cell? ⟨xb, j, none⟩ = some (.int .i64 (g j)) ∧ W.frozen? ⟨xb, j, none⟩ = false
theorem ArrIs.toF {W : World} {xb : Nat} {c : ByteArray → Int} (h : ArrIs W xb c) : ArrF W xb (fun j => c (nm j)) := fun j hj => h j (nm j) (nm_mem j hj).1
theorem ArrF.toIs {W : World} {xb : Nat} {c : ByteArray → Int} {g : Nat → Int} (h : ArrF W xb g) (e : ∀ j, j < 10 → g j = c (nm j)) : ArrIs W xb c := fun j key hj => by
  have hl : j < 10 := (List.getElem?_eq_some_iff.1 hj).1
  have := h j hl
  rwa [e j hl, nm_get hj] at this
theorem ArrF.keep {W W' : World} {xb : Nat} {g : Nat → Int} {A : Nat → Prop} (h : ArrF W xb g) (k : Keep A W W') (hA : ¬ A xb) : ArrF W' xb g := fun j hj =>
  ⟨k.cell (h j hj).1 hA, (k.frozen (World.block_lt_of_cell? _ _ (h j hj).1) hA j).trans (h j hj).2⟩
theorem ArrF.set {W : World} {xb m : Nat} {g : Nat → Int} (h : ArrF W xb g) (v : Int) : ArrF (W.setCell ⟨xb, m, none⟩ (.int .i64 v)) xb (fun j => if j = m then v else g j) := fun j hj => by
  refine ⟨?_, by rw [World.frozen?_setCell]; exact (h j hj).2⟩
  show _ = some (Value.int .i64 (if j = m then v else g j))
  by_cases e : j = m
  · subst e; rw [if_pos rfl]; exact cell_set_same (h j hj).1
  · rw [if_neg e, cell_set_off (fun e' => e e'.symm)]; exact (h j hj).1
theorem ArrF.congr {W : World} {xb : Nat} {g g' : Nat → Int} (h : ArrF W xb g) (e : ∀ j, j < 10 → g' j = g j) : ArrF W xb g' := fun j hj => by rw [e j hj]; exact h j hj
theorem ArrF.lt {W : World} {xb : Nat} {g : Nat → Int} (h : ArrF W xb g) : xb < W.heap.size := World.block_lt_of_cell? _ _ (h 0 (by decide)).1

/-- All ten are stored. -/
theorem arr_set10 {W : World} {xb : Nat} {g : Nat → Int} (h : ArrF W xb g) (c : ByteArray → Int) : ArrIs ((((((((((W.setCell ⟨xb, 0, none⟩ (.int .i64 (c (nm 0)))).setCell ⟨xb, 1, none⟩ (.int .i64 (c (nm 1)))).setCell ⟨xb, 2, none⟩ (.int .i64 (c (nm 2)))).setCell ⟨xb, 3, none⟩ (.int .i64 (c (nm 3)))).setCell ⟨xb, 4, none⟩ (.int .i64 (c (nm 4)))).setCell ⟨xb, 5, none⟩ (.int .i64 (c (nm 5)))).setCell ⟨xb, 6, none⟩ (.int .i64 (c (nm 6)))).setCell ⟨xb, 7, none⟩ (.int .i64 (c (nm 7)))).setCell ⟨xb, 8, none⟩ (.int .i64 (c (nm 8)))).setCell ⟨xb, 9, none⟩ (.int .i64 (c (nm 9)))) xb c ∧ Keep (fun k => k = xb) W ((((((((((W.setCell ⟨xb, 0, none⟩ (.int .i64 (c (nm 0)))).setCell ⟨xb, 1, none⟩ (.int .i64 (c (nm 1)))).setCell ⟨xb, 2, none⟩ (.int .i64 (c (nm 2)))).setCell ⟨xb, 3, none⟩ (.int .i64 (c (nm 3)))).setCell ⟨xb, 4, none⟩ (.int .i64 (c (nm 4)))).setCell ⟨xb, 5, none⟩ (.int .i64 (c (nm 5)))).setCell ⟨xb, 6, none⟩ (.int .i64 (c (nm 6)))).setCell ⟨xb, 7, none⟩ (.int .i64 (c (nm 7)))).setCell ⟨xb, 8, none⟩ (.int .i64 (c (nm 8)))).setCell ⟨xb, 9, none⟩ (.int .i64 (c (nm 9)))) := by
  constructor
  · have h1 := (((((((((h.set (m := 0) (c (nm 0))).set (m := 1) (c (nm 1))).set (m := 2) (c (nm 2))).set (m := 3) (c (nm 3))).set (m := 4) (c (nm 4))).set (m := 5) (c (nm 5))).set (m := 6) (c (nm 6))).set (m := 7) (c (nm 7))).set (m := 8) (c (nm 8))).set (m := 9) (c (nm 9))
    refine h1.toIs (fun j hj => ?_)
    have hc : j = 0 ∨ j = 1 ∨ j = 2 ∨ j = 3 ∨ j = 4 ∨ j = 5 ∨ j = 6 ∨ j = 7 ∨ j = 8 ∨ j = 9 := by omega
    rcases hc with rfl | rfl | rfl | rfl | rfl | rfl | rfl | rfl | rfl | rfl <;> simp
  · have k := Keep.refl (fun k => k = xb) W
    exact (((((((((k.setCell (p := ⟨xb, 0, none⟩) _ (.inl rfl)).setCell (p := ⟨xb, 1, none⟩) _ (.inl rfl)).setCell (p := ⟨xb, 2, none⟩) _ (.inl rfl)).setCell (p := ⟨xb, 3, none⟩) _ (.inl rfl)).setCell (p := ⟨xb, 4, none⟩) _ (.inl rfl)).setCell (p := ⟨xb, 5, none⟩) _ (.inl rfl)).setCell (p := ⟨xb, 6, none⟩) _ (.inl rfl)).setCell (p := ⟨xb, 7, none⟩) _ (.inl rfl)).setCell (p := ⟨xb, 8, none⟩) _ (.inl rfl)).setCell (p := ⟨xb, 9, none⟩) _ (.inl rfl)

/-- The two sketches, their capacities, the numbers of uses. -/
structure BG (w W : World) (s1 b1 k1 : Nat) (L1 : List C) (c : ByteArray → Int) (s2 b2 k2 : Nat) (L2 : List C) (d : ByteArray → Int) (xb yb i : Nat) : Prop where
  fam : Fam w W [⟨s1, b1, k1, L1⟩, ⟨s2, b2, k2, L2⟩]
  xa : ArrIs W xb c
  ya : ArrIs W yb d
  x0 : w.heap.size ≤ xb
  y0 : w.heap.size ≤ yb
  xy : xb ≠ yb
  xs : xb ≠ s1 ∧ xb ≠ b1 ∧ xb ≠ s2 ∧ xb ≠ b2
  ys : yb ≠ s1 ∧ yb ≠ b1 ∧ yb ≠ s2 ∧ yb ≠ b2
  k12 : k1 ≤ 12 ∧ k2 ≤ 12
  bd1 : Bd k1 L1 c
  bd2 : Bd k2 L2 d
  nm1 : Named L1
  nm2 : Named L2
  pt : Pot (sumH L1) (sumH L2) i
section
variable {w W W' : World} {s1 b1 k1 : Nat} {L1 : List C} {c : ByteArray → Int} {s2 b2 k2 : Nat} {L2 : List C} {d : ByteArray → Int} {xb yb i : Nat}
theorem BG.sk1 (h : BG w W s1 b1 k1 L1 c s2 b2 k2 L2 d xb yb i) : Sk W s1 b1 k1 L1 := h.fam.at_ (A := []) (B := [_])
theorem BG.sk2 (h : BG w W s1 b1 k1 L1 c s2 b2 k2 L2 d xb yb i) : Sk W s2 b2 k2 L2 := h.fam.at_ (A := [_]) (B := [])
theorem BG.keep (h : BG w W s1 b1 k1 L1 c s2 b2 k2 L2 d xb yb i) (k : Keep (fun _ => False) W W') : BG w W' s1 b1 k1 L1 c s2 b2 k2 L2 d xb yb i :=
  ⟨h.fam.keep k, h.xa.keep k (fun h => h), h.ya.keep k (fun h => h), h.x0, h.y0, h.xy, h.xs, h.ys, h.k12, h.bd1, h.bd2, h.nm1, h.nm2, h.pt⟩
theorem BG.l1 (h : BG w W s1 b1 k1 L1 c s2 b2 k2 L2 d xb yb i) : L1.length ≤ 12 := by have := h.nm1.len h.sk1.ok.keys; omega
theorem BG.l2 (h : BG w W s1 b1 k1 L1 c s2 b2 k2 L2 d xb yb i) : L2.length ≤ 12 := by have := h.nm2.len h.sk2.ok.keys; omega
theorem BG.small (h : BG w W s1 b1 k1 L1 c s2 b2 k2 L2 d xb yb i) (hi : i ≤ 60) : 0 ≤ sumH L1 ∧ 0 ≤ sumH L2 ∧ sumH L1 + sumH L2 ≤ 900000000000000 := ⟨h.pt.1, h.pt.2.1, h.pt.small hi⟩
theorem BG.mrg (h : BG w W s1 b1 k1 L1 c s2 b2 k2 L2 d xb yb i) (hi : i ≤ 60) (hk : k1 ≤ k2) : Mrg k1 L1 k2 L2 := by
  have hs := h.small hi
  exact ⟨h.sk1.ok, h.sk2.ok, by omega, by omega, hk, by have := h.nm1.union h.nm2 h.sk1.ok.keys h.sk2.ok.keys; omega⟩
/-- The array x is written. -/
theorem Fam.keepX {l : List SE} (h : Fam w W l) (k : Keep (fun k => k = xb) W W') (h1 : ∀ e ∈ l, xb ≠ e.s ∧ xb ≠ e.bm) (h2 : w.heap.size ≤ xb) : Fam w W' l :=
  h.keepA k (fun e he => ⟨fun e' => (h1 e he).1 e'.symm, fun e' => (h1 e he).2 e'.symm⟩) (fun i e => by omega)
theorem BG.ne2 (h : BG w W s1 b1 k1 L1 c s2 b2 k2 L2 d xb yb i) : ∀ e ∈ ([⟨s1, b1, k1, L1⟩, ⟨s2, b2, k2, L2⟩] : List SE), xb ≠ e.s ∧ xb ≠ e.bm := fun e he => by
  have := h.xs
  simp only [List.mem_cons, List.not_mem_nil, or_false] at he
  rcases he with rfl | rfl
  · exact ⟨this.1, this.2.1⟩
  · exact ⟨this.2.2.1, this.2.2.2⟩
end

theorem Fam.swap {w W : World} {x y : SE} (h : Fam w W [x, y]) : Fam w W [y, x] :=
  ⟨h.k, fun e he => h.sk e (by simp only [List.mem_cons, List.not_mem_nil, or_false] at he ⊢; exact he.symm), by have := h.ds; simp only [List.map_cons, List.map_nil, List.nodup_cons, List.mem_cons, List.not_mem_nil, or_false, not_false_eq_true, List.nodup_nil, and_true] at this ⊢; exact fun e => this e.symm,
    by have := h.db; simp only [List.map_cons, List.map_nil, List.nodup_cons, List.mem_cons, List.not_mem_nil, or_false, not_false_eq_true, List.nodup_nil, and_true] at this ⊢; exact fun e => this e.symm⟩

/-- What the law is told of the numbers that are rounded up. -/
def rnd (xs : List Int) (j : Nat) : Int := match xs[j]? with | none => 0 | some v => pk v 2
theorem rnd_bd (xs : List Int) (j : Nat) : 0 ≤ rnd xs j ∧ rnd xs j ≤ 1 := by
  unfold rnd
  cases xs[j]? with
  | none => exact ⟨by simp, by simp⟩
  | some v => have := pk_bd v 2 (by decide); simp only []; omega
def hfC (c : ByteArray → Int) (xs : List Int) (k : ByteArray) : Int := (c k + rnd xs (nms.idxOf k)) / 2
theorem nm_idx (j : Nat) (hj : j < 10) : nms.idxOf (nm j) = j := by
  have hc : j = 0 ∨ j = 1 ∨ j = 2 ∨ j = 3 ∨ j = 4 ∨ j = 5 ∨ j = 6 ∨ j = 7 ∨ j = 8 ∨ j = 9 := by omega
  rcases hc with rfl | rfl | rfl | rfl | rfl | rfl | rfl | rfl | rfl | rfl <;> decide
theorem hfC_nm (c : ByteArray → Int) (xs : List Int) (j : Nat) (hj : j < 10) : hfC c xs (nm j) = (c (nm j) + rnd xs j) / 2 := by unfold hfC; rw [nm_idx j hj]

/-- While the array x is written. -/
structure BH (w W : World) (s1 b1 k1 : Nat) (L1 : List C) (g : Nat → Int) (s2 b2 k2 : Nat) (L2 : List C) (d : ByteArray → Int) (xb yb : Nat) : Prop where
  fam : Fam w W [⟨s1, b1, k1, L1⟩, ⟨s2, b2, k2, L2⟩]
  xa : ArrF W xb g
  ya : ArrIs W yb d
  x0 : w.heap.size ≤ xb
  xy : xb ≠ yb
  xs : xb ≠ s1 ∧ xb ≠ b1 ∧ xb ≠ s2 ∧ xb ≠ b2
section
variable {w W W' : World} {s1 b1 k1 : Nat} {L1 : List C} {g : Nat → Int} {s2 b2 k2 : Nat} {L2 : List C} {d : ByteArray → Int} {xb yb : Nat}
theorem BH.keep (h : BH w W s1 b1 k1 L1 g s2 b2 k2 L2 d xb yb) (k : Keep (fun _ => False) W W') : BH w W' s1 b1 k1 L1 g s2 b2 k2 L2 d xb yb :=
  ⟨h.fam.keep k, h.xa.keep k (fun h => h), h.ya.keep k (fun h => h), h.x0, h.xy, h.xs⟩
theorem BH.congr {g' : Nat → Int} (h : BH w W s1 b1 k1 L1 g s2 b2 k2 L2 d xb yb) (e : ∀ j, j < 10 → g' j = g j) : BH w W s1 b1 k1 L1 g' s2 b2 k2 L2 d xb yb :=
  ⟨h.fam, h.xa.congr e, h.ya, h.x0, h.xy, h.xs⟩
theorem BH.set (h : BH w W s1 b1 k1 L1 g s2 b2 k2 L2 d xb yb) (m : Nat) (v : Int) : BH w (W.setCell ⟨xb, m, none⟩ (.int .i64 v)) s1 b1 k1 L1 (fun j => if j = m then v else g j) s2 b2 k2 L2 d xb yb := by
  have k : Keep (fun k => k = xb) W (W.setCell ⟨xb, m, none⟩ (.int .i64 v)) := (Keep.refl (fun k => k = xb) W).setCell (p := ⟨xb, m, none⟩) _ (.inl rfl)
  refine ⟨h.fam.keepX k (fun e he => ?_) h.x0, h.xa.set v, h.ya.keep k (fun e => h.xy e.symm), h.x0, h.xy, h.xs⟩
  have := h.xs
  simp only [List.mem_cons, List.not_mem_nil, or_false] at he
  rcases he with rfl | rfl
  · exact ⟨this.1, this.2.1⟩
  · exact ⟨this.2.2.1, this.2.2.2⟩
end

theorem arr_range {W : World} {xb : Nat} {c : ByteArray → Int} (h : ArrIs W xb c) : W.rangeAt xb 0 ((List.range 10).map (fun m => Value.int .i64 (c (nm m)))) := fun j v hv => by
  have hl : j < 10 := by have := (List.getElem?_eq_some_iff.1 hv).1; simpa using this
  rw [List.getElem?_map, List.getElem?_range hl] at hv
  cases hv
  rw [Nat.zero_add]
  exact (h.toF j hl).1
/-- A whole array is read; stored. -/
theorem wpList_load_arr {ops : Array Oper} {rest : List Oper} {op : Oper} {a : Act} {W : World} {Q : Exit → Act → World → Prop} {xb : Nat} {c : ByteArray → Int} (x : Operand) (ho : op.op = .load 52 x) (hx : a.eval x = .pointer (some ⟨xb, 0, none⟩))
    (h : ArrIs W xb c) (hw : Region.wanted op (yielded ops a.tmps) = true) (hk : wpList Try.prog ops Q rest (a.put op.dst (.agg (arrV c))) W) : wpList Try.prog ops Q (op :: rest) a W :=
  wpList_step fun K hK => by
    rw [if_pos hw]
    exact wp_load_mid 52 x ho xb 0 hx _ _ (arr_range h) Try.underlying52 rfl (by kernel_rfl) (hK _ _ hk)
theorem wpList_store_arr {ops : Array Oper} {rest : List Oper} {op : Oper} {a : Act} {W : World} {Q : Exit → Act → World → Prop} {xb : Nat} {c d : ByteArray → Int} (x y : Operand) (ho : op.op = .store 52 x y) (hx : a.eval x = .pointer (some ⟨xb, 0, none⟩)) (hy : a.eval y = .agg (arrV d))
    (h : ArrIs W xb c) (hw : Region.wanted op (yielded ops a.tmps) = true) (hk : ∀ W', ArrIs W' xb d → Keep (fun k => k = xb) W W' → wpList Try.prog ops Q rest (a.put op.dst undef) W') : wpList Try.prog ops Q (op :: rest) a W :=
  wpList_step fun K hK => by
    rw [if_pos hw]
    have h1 := arr_set10 h.toF d
    exact wp_store_mid 52 x y ho xb 0 (arrV d) hx hy (fun j hj => by
      have hj' : j < 10 := hj
      have := h.toF j hj'
      rw [Nat.zero_add]
      exact ⟨by rw [this.1]; rfl, this.2⟩) (by kernel_rfl) (by simp [arrV, Value.oneCell']) (hK _ _ (hk _ h1.1 h1.2))
end Go.Proofs.Ytogkkghliogpeaa
