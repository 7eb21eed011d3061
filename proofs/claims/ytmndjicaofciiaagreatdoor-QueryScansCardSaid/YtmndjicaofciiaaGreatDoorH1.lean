/-
  Rows, changes, boxes; the rows of a store.
-/
import Derived.Test.YtmndjicaofciiaaGreatDoorP1
import Derived.Test.YtmndjicaofciiaaGreatDoorP2
import Derived.Test.YtmndjicaofciiaaGreatDoorG4
import Derived.Laws.StructEq
import Derived.DeepKeys4
namespace Go.Proofs.YtmndjicaofciiaaGreatDoor
open Go.RowKit Go.Shelf
open Go.Maps (Keyed)

/-- Some cells in a box. -/
structure BoxL (W : World) (z : Nat) (xs : List Value) : Prop where
  lt : z < W.heap.size
  cell : ∀ j x, xs[j]? = some x → W.cell? ⟨z, j, none⟩ = some x
  soft : ∀ o, W.frozen? ⟨z, o, none⟩ = false
theorem BoxL.keep {A : Nat → Prop} {W W' : World} {z : Nat} {xs : List Value} (h : BoxL W z xs) (k : Keep A W W') (hA : ¬ A z) : BoxL W' z xs :=
  ⟨Nat.lt_of_lt_of_le h.lt k.size, fun j x hj => k.cell (h.cell j x hj) hA, fun o => (k.frozen h.lt hA o).trans (h.soft o)⟩
theorem BoxL.kept {W W' : World} {z : Nat} {xs : List Value} (h : BoxL W z xs) (k : Keep (fun _ => False) W W') : BoxL W' z xs := h.keep k (fun h => h)
theorem BoxL.new (W : World) (xs : List Value) (t : TypeId) : BoxL (W.alloc (.cells xs.toArray t)) W.heap.size xs := by
  refine ⟨by simp, fun j x hj => ?_, fun o => by simp [go_sem]⟩
  unfold World.cell?
  rw [World.alloc_heap_new]
  simp [hj]
theorem BoxL.set {W : World} {z : Nat} {xs : List Value} (h : BoxL W z xs) (m : Nat) (hm : m < xs.length) (v : Value) : BoxL (W.setCell ⟨z, m, none⟩ v) z (xs.set m v) := by
  refine ⟨by simpa using h.lt, fun j x hj => ?_, fun o => (World.frozen?_setCell _ _ _ _).trans (h.soft o)⟩
  obtain ⟨u, hu⟩ : ∃ u, xs[m]? = some u := ⟨_, List.getElem?_eq_getElem hm⟩
  by_cases e : m = j
  · subst e
    rw [cell_set_same (h.cell m u hu)]
    rw [List.getElem?_set_self hm] at hj
    exact hj
  · rw [List.getElem?_set_ne e] at hj
    rw [cell_set_off e]
    exact h.cell j x hj
theorem BoxL.drew {W : World} {z : Nat} {xs : List Value} (h : BoxL W z xs) : BoxL W.drew z xs := ⟨h.lt, h.cell, h.soft⟩

abbrev vI (n : Int) : Value := .int .i64 n
/-- A row's cells. -/
abbrev rowC (r : R5) : List Value := [.int .i64 r.tb, .int .i64 r.ky, .int .i64 r.a, .int .i64 r.b, .int .i64 r.c]
abbrev rowV (r : R5) : Value := .agg #[.int .i64 r.tb, .int .i64 r.ky, .int .i64 r.a, .int .i64 r.b, .int .i64 r.c]
abbrev chC (c : Chg) : List Value := [.int .i64 c.tb, .int .i64 c.ky, .bool c.had, .int .i64 c.o0, .int .i64 c.o1, .int .i64 c.o2, .bool c.has, .int .i64 c.n0, .int .i64 c.n1, .int .i64 c.n2]
abbrev chV (c : Chg) : Value := .agg #[.int .i64 c.tb, .int .i64 c.ky, .bool c.had, .int .i64 c.o0, .int .i64 c.o1, .int .i64 c.o2, .bool c.has, .int .i64 c.n0, .int .i64 c.n1, .int .i64 c.n2]
abbrev idV (t k : Int) : Value := .agg #[.int .i64 t, .int .i64 k]
abbrev v3V (a b c : Int) : Value := .agg #[.int .i64 a, .int .i64 b, .int .i64 c]
/-- All numbers of a row are of int. -/
def R5.fine (r : R5) : Prop := I64 r.tb ∧ I64 r.ky ∧ I64 r.a ∧ I64 r.b ∧ I64 r.c
def Chg.fine (c : Chg) : Prop := c.old.fine ∧ c.new.fine
/-- Changes in a slice. -/
structure Chs (W : World) (v : Value) (l : List Chg) : Prop where
  n : l.length ≤ 1000000000
  fine : ∀ c ∈ l, c.fine
  at_ : ∃ a c b off, v = .slice a l.length c ∧ l.length ≤ c ∧ (0 < l.length → a = some ⟨b, off, none⟩) ∧ ∀ i ch, l[i]? = some ch → ∀ j x, (chC ch)[j]? = some x → W.cell? ⟨b, off + i * 10 + j, none⟩ = some x
theorem Chs.keep {W W' : World} {A : Nat → Prop} {v : Value} {l : List Chg} (h : Chs W v l) (k : Keep A W W') (hA : ∀ b, v.ownBlock = some b → ¬ A b) : Chs W' v l := by
  obtain ⟨hn, hf, a, c, b, off, rfl, hc, ha, h1⟩ := h
  refine ⟨hn, hf, a, c, b, off, rfl, hc, ha, fun i ch hi j x hj => ?_⟩
  have hp : 0 < l.length := by have := (List.getElem?_eq_some_iff.1 hi).1; omega
  refine k.cell (h1 i ch hi j x hj) (hA b ?_)
  rw [ha hp]; rfl
theorem Chs.kept {W W' : World} {v : Value} {l : List Chg} (h : Chs W v l) (k : Keep (fun _ => False) W W') : Chs W' v l := h.keep k (fun _ _ h => h)
/-- Rows in a slice. -/
structure Rws (W : World) (v : Value) (l : List R5) : Prop where
  n : l.length ≤ 1000000000
  at_ : ∃ a c b off, v = .slice a l.length c ∧ l.length ≤ c ∧ (0 < l.length → a = some ⟨b, off, none⟩) ∧ ∀ i r, l[i]? = some r → ∀ j x, (rowC r)[j]? = some x → W.cell? ⟨b, off + i * 5 + j, none⟩ = some x
theorem Rws.keep {W W' : World} {A : Nat → Prop} {v : Value} {l : List R5} (h : Rws W v l) (k : Keep A W W') (hA : ∀ b, v.ownBlock = some b → ¬ A b) : Rws W' v l := by
  obtain ⟨hn, a, c, b, off, rfl, hc, ha, h1⟩ := h
  refine ⟨hn, a, c, b, off, rfl, hc, ha, fun i ch hi j x hj => ?_⟩
  have hp : 0 < l.length := by have := (List.getElem?_eq_some_iff.1 hi).1; omega
  refine k.cell (h1 i ch hi j x hj) (hA b ?_)
  rw [ha hp]; rfl
theorem Rws.kept {W W' : World} {v : Value} {l : List R5} (h : Rws W v l) (k : Keep (fun _ => False) W W') : Rws W' v l := h.keep k (fun _ _ h => h)

/-! ### the map of a store -/
theorem wf_i64 {n : Int} (h : I64 n) : (Lit.int .i64 n).wf = true := by
  have e : wrap64 n = n := by unfold wrap64; unfold I64 at h; omega
  have := wrap64_wf n
  rwa [e] at this
theorem wrapI {n : Int} (h : I64 n) : IntKind.i64.wrap n = n := by
  unfold I64 at h
  simp only [IntKind.wrap, IntKind.bits, IntKind.signed]
  simp
  omega
theorem laidB : laidOutB Tryz.prog = true := by kernel_rfl
theorem idKeyed : Keyed Tryz.prog 65 := Keyed.of_law (deep_law_laid laidB (m := 2) (by decide) (Nat.le_of_ble_eq_true (by kernel_rfl)) (by kernel_rfl) (by kernel_rfl))
theorem keyId {t k : Int} (ht : I64 t) (hk : I64 k) : ∃ l, keyOf Tryz.prog 65 (idV t k) = some l := by
  have h1 := wf_i64 ht
  have h2 := wf_i64 hk
  have e1 : Tryz.prog.keyType 65 = true := by kernel_rfl
  have e2 : (idV t k).formed Tryz.prog 65 = true := by kernel_rfl
  refine ⟨.string (keyBytes [.int .i64 t, .int .i64 k]), ?_⟩
  unfold keyOf
  simp only [Tryz.underlying65]
  rw [e1, e2]
  simp only [Bool.and_self, if_true]
  have u3 := Tryz.underlying3
  have c3 : Tryz.prog.cellsOf 3 = 1 := by kernel_rfl
  have c65 : Tryz.prog.cellsOf 65 = 2 := by kernel_rfl
  obtain ⟨m, hm⟩ : ∃ m, Tryz.prog.types.size + 1 = m + 2 := by
    have h : 1 ≤ Tryz.prog.types.size := Nat.le_of_ble_eq_true (by kernel_rfl)
    exact ⟨Tryz.prog.types.size - 1, by omega⟩
  rw [hm]
  unfold Program.keyLits
  simp only [Tryz.underlying65]
  simp [c65, c3, Program.keyLits, u3, h1, h2, Value.cells]
end Go.Proofs.YtmndjicaofciiaaGreatDoor
