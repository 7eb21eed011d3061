/-
  A query that came in.
-/
import Derived.Test.YtmndjicaofciiaaGreatDoorY1
namespace Go.Proofs.YtmndjicaofciiaaGreatDoor
open Go.ChangeShapes Go.WideShapes Go.ChangeAt Go.RowKit Go.Shelf

theorem cellsQ : Tryz.prog.cellsOf 24 = 7 := by kernel_rfl
theorem array7 {α : Type} {cs : Array α} (h : cs.size = 7) : ∃ c0 c1 c2 c3 c4 c5 c6, cs = #[c0, c1, c2, c3, c4, c5, c6] := by
  obtain ⟨l⟩ := cs
  match l, h with
  | [c0, c1, c2, c3, c4, c5, c6], _ => exact ⟨c0, c1, c2, c3, c4, c5, c6, rfl⟩
theorem one_int {H : Type} {enc : TypeId × Value → H} {w : World} {base n : Nat} {spare : Nat → Bool} {held : Bool} {c : Value} {xs : List (DataW H × List MemPlace)} {i : Nat} (hi : i < xs.length) (h : DataW.trod enc Tryz.prog w base spare held n 3 [c] = xs[i]?) : ∃ z, c = .int .i64 z := by
  rw [List.getElem?_eq_getElem hi] at h
  obtain ⟨z, hz, -⟩ := DataW.trod_int Tryz.underlying3 h
  exact ⟨z, (List.cons.inj hz).1⟩
set_option maxRecDepth 100000 in
theorem qy_open {H : Type} {enc : TypeId × Value → H} {w : World} {base b0 : Nat} {spare : Nat → Bool} {held : Bool} {r : Reach} {v : Value} {d : DataW H} {p : List MemPlace}
    (hv : Value.okWide Tryz.prog w r b0 24 v) (h : DataW.Trod enc Tryz.prog w base spare held 24 v d p) : ∃ q : Qy, v = qV q := by
  obtain ⟨cs, rfl, hsz⟩ := okWide_struct Tryz.underlying24 hv
  obtain ⟨c0, c1, c2, c3, c4, c5, c6, rfl⟩ := array7 (hsz.trans cellsQ)
  obtain ⟨fuel, hf⟩ := h
  obtain ⟨xs, n, _, _, _, hlen, hall⟩ := DataW.trod_struct Tryz.underlying24 hf
  have hl : xs.length = 7 := hlen
  obtain ⟨z0, rfl⟩ := one_int (c := c0) (i := 0) (by omega) (hall 0 _ rfl)
  obtain ⟨z1, rfl⟩ := one_int (c := c1) (i := 1) (by omega) (hall 1 _ rfl)
  obtain ⟨z2, rfl⟩ := one_int (c := c2) (i := 2) (by omega) (hall 2 _ rfl)
  obtain ⟨z3, rfl⟩ := one_int (c := c3) (i := 3) (by omega) (hall 3 _ rfl)
  obtain ⟨z4, rfl⟩ := one_int (c := c4) (i := 4) (by omega) (hall 4 _ rfl)
  obtain ⟨z5, rfl⟩ := one_int (c := c5) (i := 5) (by omega) (hall 5 _ rfl)
  obtain ⟨z6, rfl⟩ := one_int (c := c6) (i := 6) (by omega) (hall 6 _ rfl)
  exact ⟨⟨z0, z1, z2, z3, z4, z5, z6⟩, rfl⟩
end Go.Proofs.YtmndjicaofciiaaGreatDoor
