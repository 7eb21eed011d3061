/-
  Queries as values and in boxes.
-/
import Derived.Test.YtmndjicaofciiaaGreatDoorU3
import Derived.Test.YtmndjicaofciiaaGreatDoorG7
import Derived.Test.YtmndjicaofciiaaGreatDoorProg
import Derived.WalkKit
import Derived.WalkMore
import Derived.WalkSpells
import Derived.WalkLawsBesides
import Derived.LoopTactic
import Derived.StillTailTactics
import Derived.Maps.Keyed
import Derived.Deep.QuietTactic
import Derived.BigQuiet
import Derived.Below
import Derived.Shelf.Abstract
import Derived.Lib.Hide
import Derived.Laws.BitsAll
import Derived.Deep.DeepCutAuto
import Derived.Deep.LoopGhost
namespace Go.Proofs.YtmndjicaofciiaaGreatDoor
open Go.RowKit Go.Shelf

def I64 (x : Int) : Prop := -9223372036854775808 ≤ x ∧ x ≤ 9223372036854775807
abbrev ptr (s : Nat) : Value := .pointer (some ⟨s, 0, none⟩)
/-- A query as a value. -/
abbrev qV (q : Qy) : Value := .agg #[.int .i64 q.kd, .int .i64 q.tb, .int .i64 q.cl, .int .i64 q.lo, .int .i64 q.hi, .int .i64 q.bb, .int .i64 q.ot]
/-- A query in a box. -/
def QBox (W : World) (z : Nat) (q : Qy) : Prop := (∀ j, j < 7 → W.cell? ⟨z, j, none⟩ = some (.int .i64 (q.get j))) ∧ ∀ o, W.frozen? ⟨z, o, none⟩ = false
theorem QBox.keep {A : Nat → Prop} {W W' : World} {z : Nat} {q : Qy} (h : QBox W z q) (k : Keep A W W') (hA : ¬ A z) : QBox W' z q :=
  ⟨fun j hj => k.cell (h.1 j hj) hA, fun o => by
    have hl : z < W.heap.size := World.block_lt_of_cell? _ _ (h.1 0 (by decide))
    rw [World.frozen?_of_block (w := W) (a := ⟨z, o, none⟩) (k.block z hl hA)]
    exact h.2 o⟩
theorem QBox.kept {W W' : World} {z : Nat} {q : Qy} (h : QBox W z q) (k : Keep (fun _ => False) W W') : QBox W' z q := h.keep k (fun h => h)
theorem QBox.lt {W : World} {z : Nat} {q : Qy} (h : QBox W z q) : z < W.heap.size := World.block_lt_of_cell? _ _ (h.1 0 (by decide))
theorem QBox.new (W : World) (q : Qy) (t : TypeId) : QBox (W.alloc (.cells #[.int .i64 q.kd, .int .i64 q.tb, .int .i64 q.cl, .int .i64 q.lo, .int .i64 q.hi, .int .i64 q.bb, .int .i64 q.ot] t)) W.heap.size q := by
  refine ⟨fun j hj => ?_, fun o => by simp [go_sem]⟩
  match j, hj with
  | 0, _ => simp [Qy.get]
  | 1, _ => simp [Qy.get]
  | 2, _ => simp [Qy.get]
  | 3, _ => simp [Qy.get]
  | 4, _ => simp [Qy.get]
  | 5, _ => simp [Qy.get]
  | 6, _ => simp [Qy.get]
theorem QBox.set {W : World} {z : Nat} {q : Qy} (h : QBox W z q) (m : Nat) (hm : m < 7) (v : Int) : QBox (W.setCell ⟨z, m, none⟩ (.int .i64 v)) z (q.set v m) := by
  refine ⟨fun j hj => ?_, fun o => (World.frozen?_setCell _ _ _ _).trans (h.2 o)⟩
  by_cases e : m = j
  · subst e
    rw [cell_set_same (h.1 m hm)]
    match m, hm with
    | 0, _ => rfl
    | 1, _ => rfl
    | 2, _ => rfl
    | 3, _ => rfl
    | 4, _ => rfl
    | 5, _ => rfl
    | 6, _ => rfl
  · rw [cell_set_off e, h.1 j hj]
    match m, hm, j, hj with
    | 0, _, 0, _ => exact absurd rfl e
    | 1, _, 1, _ => exact absurd rfl e
    | 2, _, 2, _ => exact absurd rfl e
    | 3, _, 3, _ => exact absurd rfl e
    | 4, _, 4, _ => exact absurd rfl e
    | 5, _, 5, _ => exact absurd rfl e
    | 6, _, 6, _ => exact absurd rfl e
    | 0, _, 1, _ => rfl
    | 0, _, 2, _ => rfl
    | 0, _, 3, _ => rfl
    | 0, _, 4, _ => rfl
    | 0, _, 5, _ => rfl
    | 0, _, 6, _ => rfl
    | 1, _, 0, _ => rfl
    | 1, _, 2, _ => rfl
    | 1, _, 3, _ => rfl
    | 1, _, 4, _ => rfl
    | 1, _, 5, _ => rfl
    | 1, _, 6, _ => rfl
    | 2, _, 0, _ => rfl
    | 2, _, 1, _ => rfl
    | 2, _, 3, _ => rfl
    | 2, _, 4, _ => rfl
    | 2, _, 5, _ => rfl
    | 2, _, 6, _ => rfl
    | 3, _, 0, _ => rfl
    | 3, _, 1, _ => rfl
    | 3, _, 2, _ => rfl
    | 3, _, 4, _ => rfl
    | 3, _, 5, _ => rfl
    | 3, _, 6, _ => rfl
    | 4, _, 0, _ => rfl
    | 4, _, 1, _ => rfl
    | 4, _, 2, _ => rfl
    | 4, _, 3, _ => rfl
    | 4, _, 5, _ => rfl
    | 4, _, 6, _ => rfl
    | 5, _, 0, _ => rfl
    | 5, _, 1, _ => rfl
    | 5, _, 2, _ => rfl
    | 5, _, 3, _ => rfl
    | 5, _, 4, _ => rfl
    | 5, _, 6, _ => rfl
    | 6, _, 0, _ => rfl
    | 6, _, 1, _ => rfl
    | 6, _, 2, _ => rfl
    | 6, _, 3, _ => rfl
    | 6, _, 4, _ => rfl
    | 6, _, 5, _ => rfl
theorem QBox.cells {W : World} {z : Nat} {q : Qy} (h : QBox W z q) : W.cell? ⟨z, 0, none⟩ = some (.int .i64 q.kd) ∧ W.cell? ⟨z, 1, none⟩ = some (.int .i64 q.tb) ∧ W.cell? ⟨z, 2, none⟩ = some (.int .i64 q.cl) ∧ W.cell? ⟨z, 3, none⟩ = some (.int .i64 q.lo) ∧ W.cell? ⟨z, 4, none⟩ = some (.int .i64 q.hi) ∧ W.cell? ⟨z, 5, none⟩ = some (.int .i64 q.bb) ∧ W.cell? ⟨z, 6, none⟩ = some (.int .i64 q.ot) :=
  ⟨h.1 0 (by decide), h.1 1 (by decide), h.1 2 (by decide), h.1 3 (by decide), h.1 4 (by decide), h.1 5 (by decide), h.1 6 (by decide)⟩

theorem keep0 {w W0 W : World} {z : Nat} (K0 : Keep (fun _ => False) w W0) (hz : w.heap.size ≤ z) (k : Keep (fun j => j = z) W0 W) : Keep (fun _ => False) w W :=
  K0.trans' k (fun j e => .inr (by have h5 : j = z := e; omega))
end Go.Proofs.YtmndjicaofciiaaGreatDoor
