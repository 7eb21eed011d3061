/-
  Joined and cut strings; cells of a block that was just made.
-/
import Derived.Test.YtfcfjeieocjllaaDoorW5
import Derived.WideShapes
namespace Go.Proofs.YtfcfjeieocjllaaDoor
open Go.RowKit Go.Shelf

theorem bs_add (l m : List UInt8) : bs (l ++ m) = bs l ++ bs m := by
  apply Go.WideShapes.bytes_inj
  simp
theorem extract_bs (s : ByteArray) (f k : Nat) : s.extract f k = bs ((s.data.toList.take k).drop f) := by
  apply Go.WideShapes.bytes_inj
  rw [ByteArray.data_extract, List.drop_take]
  simp
theorem cell_new (W : World) (xs : Array Value) (t : TypeId) (k : Nat) : (W.alloc (.cells xs t)).cell? ⟨W.heap.size, k, none⟩ = xs[k]? := by
  unfold World.cell?
  rw [World.alloc_heap_new]
  simp
theorem Qy.ok.kinds {q : Qy} (h : q.ok) : 1 ≤ q.kd ∧ q.kd ≤ 7 := by
  rcases h.2 with h | h | h | h <;> omega
end Go.Proofs.YtfcfjeieocjllaaDoor
