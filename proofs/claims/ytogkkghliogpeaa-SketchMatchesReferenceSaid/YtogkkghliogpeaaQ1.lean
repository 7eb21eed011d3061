/-
  A slice of Steps that came in.
-/
import Derived.Test.YtogkkghliogpeaaF2
import Derived.Deep.Slices
import Derived.Deep.Fields
import Derived.ChangeSame
import Derived.ProofKit
import Derived.OpenShut
import Derived.ShutString
import Derived.ChangeOld
namespace Go.Proofs.Ytogkkghliogpeaa
open Go.ChangeShapes Go.WideShapes Go.ChangeAt Go.RowKit Go.Shelf

theorem cells30 : Try.prog.cellsOf 30 = 3 := by kernel_rfl
theorem cells3 : Try.prog.cellsOf 3 = 1 := by kernel_rfl

theorem step_cells {H : Type} {enc : TypeId × Value → H} {w : World} {base n : Nat} {spare : Nat → Bool} {held : Bool} {a : Addr} {cs : List Value} {x : DataW H × List MemPlace} (hc : w.cells? base a (Try.prog.cellsOf 30) = some cs)
    (ht : DataW.trod enc Try.prog w base spare held n 30 cs = some x) (j : Nat) (hj : j < 3) : ∃ z, w.cell? (a.add j) = some (.int .i64 z) ∧ -9223372036854775808 ≤ z ∧ z ≤ 9223372036854775807 := by
  rw [cells30] at hc
  obtain ⟨_, hcl, hat⟩ := World.cells?_some hc
  obtain ⟨ys, n', _, _, _, hyl, hf⟩ := DataW.trod_struct Try.underlying30 ht
  have hyl' : ys.length = 3 := hyl
  have key : ∀ (f : Field), (#[({ name := "Call", type := 3, offset := 0, embedded := false, tag := "", pkgPath := "", byteOffset := 0 } : Field), { name := "Key", type := 3, offset := 1, embedded := false, tag := "", pkgPath := "", byteOffset := 8 }, { name := "N", type := 3, offset := 2, embedded := false, tag := "", pkgPath := "", byteOffset := 16 }] : Array Field)[j]? = some f → f.type = 3 → f.offset = j → ∃ z, w.cell? (a.add j) = some (.int .i64 z) ∧ -9223372036854775808 ≤ z ∧ z ≤ 9223372036854775807 := by
    intro f hfj h3 ho
    have h1 := hf j f hfj
    rw [h3, ho, cells3] at h1
    have hys : ys[j]? = some (ys[j]'(by omega)) := List.getElem?_eq_getElem (by omega)
    rw [hys, List.drop_eq_getElem_cons (by omega)] at h1
    obtain ⟨z, hz, _, hwf⟩ := DataW.trod_int Try.underlying3 h1
    have hz' : cs[j]'(by omega) = .int .i64 z := by
      rw [List.take_succ_cons, List.take_zero] at hz
      exact (List.cons.inj hz).1
    refine ⟨z, ?_, bounds_i64 hwf⟩
    rw [hat j hj, List.getElem?_eq_getElem (by omega), hz']
  match j, hj with
  | 0, _ => exact key _ rfl rfl rfl
  | 1, _ => exact key _ rfl rfl rfl
  | 2, _ => exact key _ rfl rfl rfl

/-- Steps in memory: field j of step i is f i j. -/
structure Steps (w : World) (b off n : Nat) (f : Nat → Nat → Int) : Prop where
  cell : ∀ i j, i < n → j < 3 → w.cell? ⟨b, off + i * 3 + j, none⟩ = some (.int .i64 (f i j))
  lo : ∀ i j, -9223372036854775808 ≤ f i j
  hi : ∀ i j, f i j ≤ 9223372036854775807
/-- A row of integers in memory. -/
def RowIn (w : World) (a : Option Addr) (xs : List Int) : Prop := ∀ (j : Nat) (x : Int), xs[j]? = some x → ∃ b off, a = some ⟨b, off, none⟩ ∧ w.cell? ⟨b, off + j, none⟩ = some (.int .i64 x)

/-- What the walk is told of a slice of Steps. -/
def IsSteps (w : World) (a : Option Addr) (len : Nat) : Prop := len ≤ 9223372036854775807 ∧ (0 < len → ∃ b off f, a = some ⟨b, off, none⟩ ∧ Steps w b off len f)

theorem steps_open {H : Type} {enc : TypeId × Value → H} {w : World} {base fuel : Nat} {spare : Nat → Bool} {held : Bool} {a : Option Addr} {len cap : Nat} {x : DataW H × List MemPlace} (h : DataW.trod enc Try.prog w base spare held fuel 22 [.slice a len cap] = some x) : IsSteps w a len := by
  rcases Go.Deep.open_slice Try.underlying22 h with ⟨h0, _⟩ | ⟨ad, l, c, m, n, D, Pl, hcs, hb, hl, hm, hmm, hx, hi⟩
  · cases h0
    exact ⟨by omega, fun h => by omega⟩
  · cases hcs
    have hlm : len ≤ m := by rw [hmm]; split <;> omega
    unfold maxLen at hm
    refine ⟨by omega, fun h0 => ?_⟩
    have hc : ∀ i j, i < len → j < 3 → ∃ z, w.cell? (ad.add (i * 3 + j)) = some (.int .i64 z) ∧ -9223372036854775808 ≤ z ∧ z ≤ 9223372036854775807 := fun i j hi' hj => by
      obtain ⟨cs', h1, h2⟩ := hi i (by omega)
      obtain ⟨z, hz, hb⟩ := step_cells h1 h2 j hj
      rw [cells30, Go.Deep.add_add] at hz
      exact ⟨z, hz, hb⟩
    obtain ⟨b, off, spot⟩ := ad
    obtain ⟨z0, hz0, _⟩ := hc 0 0 h0 (by omega)
    have hspot : spot = none := by simpa [Addr.add] using World.cell?_spot hz0
    subst hspot
    replace hc : ∀ i j, i < len → j < 3 → ∃ z, w.cell? ⟨b, off + i * 3 + j, none⟩ = some (.int .i64 z) ∧ -9223372036854775808 ≤ z ∧ z ≤ 9223372036854775807 := fun i j h1 h2 => by
      obtain ⟨z, hz, hb⟩ := hc i j h1 h2
      rw [Addr.add_lit, ← Nat.add_assoc] at hz
      exact ⟨z, hz, hb⟩
    refine ⟨b, off, fun i j => if hh : i < len ∧ j < 3 then Classical.choose (hc i j hh.1 hh.2) else 0, rfl, ⟨fun i j h1 h2 => ?_, fun i j => ?_, fun i j => ?_⟩⟩
    · have := (Classical.choose_spec (hc i j h1 h2)).1
      rw [dif_pos ⟨h1, h2⟩]
      exact this
    · by_cases hh : i < len ∧ j < 3
      · rw [dif_pos hh]; exact (Classical.choose_spec (hc i j hh.1 hh.2)).2.1
      · rw [dif_neg hh]; omega
    · by_cases hh : i < len ∧ j < 3
      · rw [dif_pos hh]; exact (Classical.choose_spec (hc i j hh.1 hh.2)).2.2
      · rw [dif_neg hh]; omega

/-- What the walk is told of a slice of integers. -/
def IsInts (w : World) (a : Option Addr) (len : Nat) (xs : List Int) : Prop := len ≤ 9223372036854775807 ∧ xs.length = len ∧ RowIn w a xs ∧ ∀ x ∈ xs, -9223372036854775808 ≤ x ∧ x ≤ 9223372036854775807

theorem ints_open {H : Type} {enc : TypeId × Value → H} {w : World} {base fuel : Nat} {spare : Nat → Bool} {held : Bool} {a : Option Addr} {len cap : Nat} {x : DataW H × List MemPlace} (h : DataW.trod enc Try.prog w base spare held fuel 51 [.slice a len cap] = some x) : ∃ xs, IsInts w a len xs := by
  rcases open_ints Try.underlying51 Try.underlying3 cells3 h with ⟨hcs, _⟩ | ⟨ad, l, c, zs, hcs, _, hl, hm, hz, _, hcell, hwz⟩
  · cases hcs
    exact ⟨[], by omega, rfl, fun j x hj => (by cases hj), fun x hx => by cases hx⟩
  · cases hcs
    have hlz : len ≤ zs.length := by rw [hz]; split <;> omega
    unfold maxLen at hm
    refine ⟨zs.take len, by omega, by rw [List.length_take]; omega, fun j x hj => ?_, fun x hx => bounds_i64 (hwz x (List.mem_of_mem_take hx))⟩
    have hj1 : j < len := by have := (List.getElem?_eq_some_iff.1 hj).1; simp at this; omega
    have hc := hcell j (by omega)
    obtain ⟨b, off, spot⟩ := ad
    have hspot : spot = none := by simpa [Addr.add] using World.cell?_spot (hcell 0 (by omega))
    subst hspot
    refine ⟨b, off, rfl, ?_⟩
    rw [Addr.add_lit] at hc
    rw [hc]
    rw [List.getElem?_take_of_lt hj1] at hj
    rw [List.getD_eq_getElem?_getD, hj]
    rfl
end Go.Proofs.Ytogkkghliogpeaa
