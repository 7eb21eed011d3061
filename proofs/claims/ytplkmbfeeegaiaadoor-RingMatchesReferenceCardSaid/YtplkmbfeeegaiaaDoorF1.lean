/-
  From a row's own condition to the walks: the table, the slices of integers.
-/
import Derived.Test.YtplkmbfeeegaiaaDoorC1
import Derived.Test.YtplkmbfeeegaiaaDoorRows
import Derived.Test.YtplkmbfeeegaiaaDoorTie
import Derived.Test.YtplkmbfeeegaiaaDoorCards
import Derived.Lib.LaidTab
import Derived.Stop.LaidErr
import Derived.SizedLaws
import Derived.Deep.Slices
import Derived.ChangeSame
import Derived.ProofKit
import Derived.OpenShut
import Derived.LaidMore
import Derived.OpenShut
import Derived.Stop.Joined
import Derived.SevenTiedAt
namespace Go.Proofs.YtplkmbfeeegaiaaDoor
open Go.ChangeShapes Go.WideShapes Go.ChangeAt Go.RowKit Go.Shelf

/-- What every row lists. -/
abbrev laid4 : List (String × DataW Unit) := [("math/bits.deBruijn32tab", Rows.laid_math_bits_deBruijn32tab), ("math/bits.deBruijn64tab", Rows.laid_math_bits_deBruijn64tab), ("internal/strconv.uint64pow10", Rows.laid_internal_strconv_uint64pow10), ("cachetier/wire.nibbles", Rows.laid_cachetier_wire_nibbles)]
theorem own : ownKnob Tryd.prog.godebug = none := by kernel_rfl
theorem laidOut : laidOutB Tryd.prog = true := by kernel_rfl
theorem gNib : Tryd.prog.globalNamed "cachetier/wire.nibbles" = some 0 := by kernel_rfl
theorem tNib : (Tryd.prog.globals[0]?).map (·.type) = some 105 := by kernel_rfl
theorem cellsI : Tryd.prog.cellsOf 3 = 1 := by kernel_rfl
theorem bytesI : Tryd.prog.bytesOf 3 = 8 := by kernel_rfl
theorem door_met (os : Os) (args : Array Value) : laidMetH Tryd.prog laid4 ((World.doorLaid Tryd.prog 400 os).forCall (fun _ _ => 0) ⟨#[], args, []⟩).memory :=
  laidMetH_of_parts3 (fuel := 8) (laidMet_of_run' 8 (by kernel_rfl) (by kernel_rfl)) (by kernel_rfl) (by kernel_rfl)
theorem tab_of_laid {W : World} (h : laidMetH Tryd.prog laid4 W) : Tab W := by
  rw [MakeChecks.laidMetH_plain _ _ _ (by kernel_rfl)] at h
  have h3 := h.tail.tail.tail
  have ht : Lib.TabIs Tryd.prog W "cachetier/wire.nibbles" .u32 (tabL.map (fun n : Nat => (n : Int))) := Lib.tabIs_of_head gNib tNib Tryd.underlying105 Tryd.underlying103 (by kernel_rfl) (by kernel_rfl) h3
  intro i hi
  have hc := ht.cell gNib i (by rw [List.length_map]; exact hi)
  rw [hc, List.getD_eq_getElem?_getD, List.getElem?_map, List.getD_eq_getElem?_getD]
  cases hx : tabL[i]? with
  | none => rfl
  | some x => rfl
theorem ints_open {H : Type} {enc : TypeId × Value → H} {w : World} {base fuel : Nat} {spare : Nat → Bool} {held : Bool} {a : Option Addr} {len cap : Nat} {x : DataW H × List MemPlace} (h : DataW.trod enc Tryd.prog w base spare held fuel 26 [.slice a len cap] = some x)
    (hs : ∀ el sp, x.1 = .slice el sp → (el.length + sp.length) * Tryd.prog.bytesOf 3 ≤ reachBytes) : ∃ xs, Its w (.slice a len cap) xs := by
  rcases open_ints Tryd.underlying26 Tryd.underlying3 cellsI h with ⟨hcs, _⟩ | ⟨ad, l, c, zs, hcs, _, hl, hm, hz, hx, hcell, hwz⟩
  · cases hcs
    exact ⟨[], Its.nil w⟩
  · cases hcs
    have hlz : len ≤ zs.length := by rw [hz]; split <;> omega
    have h1 := hs _ _ (by rw [hx])
    rw [bytesI] at h1
    simp only [lits, List.length_map, List.length_take, List.length_drop, reachBytes] at h1
    refine ⟨zs.take len, ⟨by rw [List.length_take]; omega, fun x hx => bounds_i64 (hwz x (List.mem_of_mem_take hx)), ?_⟩⟩
    have hll : (zs.take len).length = len := by rw [List.length_take]; omega
    obtain ⟨b, off, spot⟩ := ad
    refine ⟨some ⟨b, off, spot⟩, cap, b, off, by rw [hll], by rw [hll]; exact hl, fun h0 => ?_, fun j x hj => ?_⟩
    · have hspot : spot = none := by simpa [Addr.add] using World.cell?_spot (hcell 0 (by omega))
      rw [hspot]
    · have hj1 : j < len := by have := (List.getElem?_eq_some_iff.1 hj).1; omega
      have hspot : spot = none := by simpa [Addr.add] using World.cell?_spot (hcell 0 (by omega))
      subst hspot
      have hc := hcell j (by omega)
      rw [Addr.add_lit] at hc
      rw [hc]
      rw [List.getElem?_take_of_lt hj1] at hj
      rw [List.getD_eq_getElem?_getD, hj]
      rfl
end Go.Proofs.YtplkmbfeeegaiaaDoor
