/-
  A ring that came in.
-/
import Derived.Test.YtplkmbfeeegaiaaDoorF2
import Derived.Lib.SmallJoins
namespace Go.Proofs.YtplkmbfeeegaiaaDoor
open Go.ChangeShapes Go.WideShapes Go.ChangeAt Go.RowKit Go.Shelf

theorem cellsRg : Tryd.prog.cellsOf 31 = 3 := by kernel_rfl
set_option maxRecDepth 100000 in
theorem ring_fields {H : Type} {enc : TypeId × Value → H} {w : World} {base b0 : Nat} {spare : Nat → Bool} {held : Bool} {r : Reach} {v : Value} {d : DataW H} {p : List MemPlace}
    (hv : Value.okWide Tryd.prog w r b0 31 v) (h : DataW.Trod enc Tryd.prog w base spare held 31 v d p) :
    ∃ (ep : Int) (ma : Option Addr) (mn mc : Nat) (oa : Option Addr) (on oc n : Nat) (y0 y1 y2 : DataW H × List MemPlace), v = ringV ep (.slice ma mn mc) (.slice oa on oc) ∧ I64 ep ∧ d = .agg [y0.1, y1.1, y2.1] ∧ p = y0.2 ++ (y1.2 ++ y2.2) ∧
      DataW.trod enc Tryd.prog w base spare held n 3 [.int .i64 ep] = some y0 ∧ DataW.trod enc Tryd.prog w base spare held n 22 [.slice ma mn mc] = some y1 ∧ DataW.trod enc Tryd.prog w base spare held n 26 [.slice oa on oc] = some y2 := by
  obtain ⟨c0, c1, c2, y0, y1, y2, n, rfl, rfl, rfl, h0, h1, h2⟩ := Go.Joins.open_agg3 Tryd.underlying31 (by kernel_rfl) cellsRg hv h
  obtain ⟨ep, e0, _, w0⟩ := DataW.trod_int Tryd.underlying3 h0
  obtain ⟨ma, mn, mc, e1⟩ := Go.Joins.slice_form Tryd.underlying22 h1
  obtain ⟨oa, on, oc, e2⟩ := Go.Joins.slice_form Tryd.underlying26 h2
  obtain rfl := (List.cons.inj e0).1
  obtain rfl := (List.cons.inj e1).1
  obtain rfl := (List.cons.inj e2).1
  exact ⟨ep, ma, mn, mc, oa, on, oc, n, y0, y1, y2, rfl, bounds_i64 w0, rfl, rfl, h0, h1, h2⟩
end Go.Proofs.YtplkmbfeeegaiaaDoor
