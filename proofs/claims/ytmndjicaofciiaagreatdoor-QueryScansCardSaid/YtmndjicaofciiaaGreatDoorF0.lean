/-
  Arrays of five ints in a slice.
-/
import Derived.Test.YtmndjicaofciiaaGreatDoorW0
namespace Go.Proofs.YtmndjicaofciiaaGreatDoor
open Go.RowKit Go.Shelf

/-- Arrays of five in a slice. -/
structure Fives (W : World) (v : Value) (n : Nat) (f : Nat → Nat → Int) : Prop where
  big : n ≤ 1000000000000000
  bd : ∀ i j, I64 (f i j)
  at_ : ∃ a c b off, v = .slice a n c ∧ n ≤ c ∧ (0 < n → a = some ⟨b, off, none⟩) ∧ ∀ i j, i < n → j < 5 → W.cell? ⟨b, off + i * 5 + j, none⟩ = some (.int .i64 (f i j))
theorem Fives.kept {W W' : World} {v : Value} {n : Nat} {f : Nat → Nat → Int} (h : Fives W v n f) (k : Keep (fun _ => False) W W') : Fives W' v n f := by
  obtain ⟨h1, h2, a, c, b, off, h3, h4, h5, h6⟩ := h
  exact ⟨h1, h2, a, c, b, off, h3, h4, h5, fun i j hi hj => k.cell (h6 i j hi hj) (fun h => h)⟩
end Go.Proofs.YtmndjicaofciiaaGreatDoor
