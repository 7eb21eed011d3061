/-
  A slice of members that came in.
-/
import Derived.Test.YtplkmbfeeegaiaaDoorF1
import Derived.Deep.Fields
namespace Go.Proofs.YtplkmbfeeegaiaaDoor
open Go.ChangeShapes Go.WideShapes Go.ChangeAt Go.RowKit Go.Shelf

theorem cellsMb : Tryd.prog.cellsOf 25 = 3 := by kernel_rfl
theorem mb_cells {H : Type} {enc : TypeId × Value → H} {w : World} {base n : Nat} {spare : Nat → Bool} {held : Bool} {a : Addr} {cs : List Value} {x : DataW H × List MemPlace} (hc : w.cells? base a (Tryd.prog.cellsOf 25) = some cs)
    (ht : DataW.trod enc Tryd.prog w base spare held n 25 cs = some x) (j : Nat) (hj : j < 3) : ∃ z, w.cell? (a.add j) = some (.int .i64 z) ∧ -9223372036854775808 ≤ z ∧ z ≤ 9223372036854775807 := by
  rw [cellsMb] at hc
  obtain ⟨_, hcl, hat⟩ := World.cells?_some hc
  obtain ⟨ys, n', _, _, _, hyl, hf⟩ := DataW.trod_struct Tryd.underlying25 ht
  have hyl' : ys.length = 3 := hyl
  have key : ∀ (f : Field), (#[({ name := "Node", type := 3, offset := 0, embedded := false, tag := "", pkgPath := "", byteOffset := 0 } : Field), { name := "Region", type := 3, offset := 1, embedded := false, tag := "", pkgPath := "", byteOffset := 8 }, { name := "Weight", type := 3, offset := 2, embedded := false, tag := "", pkgPath := "", byteOffset := 16 }] : Array Field)[j]? = some f → f.type = 3 → f.offset = j → ∃ z, w.cell? (a.add j) = some (.int .i64 z) ∧ -9223372036854775808 ≤ z ∧ z ≤ 9223372036854775807 := by
    intro f hfj h3 ho
    have h1 := hf j f hfj
    rw [h3, ho, cellsI] at h1
    have hys : ys[j]? = some (ys[j]'(by omega)) := List.getElem?_eq_getElem (by omega)
    rw [hys, List.drop_eq_getElem_cons (by omega)] at h1
    obtain ⟨z, hz, _, hwf⟩ := DataW.trod_int Tryd.underlying3 h1
    have hz' : cs[j]'(by omega) = .int .i64 z := by
      rw [List.take_succ_cons, List.take_zero] at hz
      exact (List.cons.inj hz).1
    refine ⟨z, ?_, bounds_i64 hwf⟩
    rw [hat j hj, List.getElem?_eq_getElem (by omega), hz']
  match j, hj with
  | 0, _ => exact key _ rfl rfl rfl
  | 1, _ => exact key _ rfl rfl rfl
  | 2, _ => exact key _ rfl rfl rfl

theorem mbs_open {H : Type} {enc : TypeId × Value → H} {w : World} {base fuel : Nat} {spare : Nat → Bool} {held : Bool} {a : Option Addr} {len cap : Nat} {x : DataW H × List MemPlace} (h : DataW.trod enc Tryd.prog w base spare held fuel 22 [.slice a len cap] = some x) (hlen : len ≤ 1000000000000000) : ∃ l, Mbs w (.slice a len cap) l ∧ l.length = len := by
  rcases Go.Deep.open_slice Tryd.underlying22 h with ⟨h0, _⟩ | ⟨ad, l, c, m, n, D, Pl, hcs, hb, hl, hm, hmm, hx, hi⟩
  · cases h0
    exact ⟨[], ⟨by simp, by simp, none, 0, 0, 0, rfl, by simp, fun h => by simp at h, fun j x hj => by simp at hj⟩, rfl⟩
  · cases hcs
    have hlm : len ≤ m := by rw [hmm]; split <;> omega
    have hc : ∀ i j, i < len → j < 3 → ∃ z, w.cell? (ad.add (i * 3 + j)) = some (.int .i64 z) ∧ -9223372036854775808 ≤ z ∧ z ≤ 9223372036854775807 := fun i j hi' hj => by
      obtain ⟨cs', h1, h2⟩ := hi i (by omega)
      obtain ⟨z, hz, hb⟩ := mb_cells h1 h2 j hj
      rw [cellsMb, Go.Deep.add_add] at hz
      exact ⟨z, hz, hb⟩
    obtain ⟨b, off, spot⟩ := ad
    by_cases hl0 : len = 0
    · subst hl0
      exact ⟨[], ⟨by simp, by simp, some ⟨b, off, spot⟩, cap, b, off, rfl, hl, fun h => by simp at h, fun j x hj => by simp at hj⟩, rfl⟩
    · obtain ⟨z0, hz0, _⟩ := hc 0 0 (by omega) (by omega)
      have hspot : spot = none := by simpa [Addr.add] using World.cell?_spot hz0
      subst hspot
      have hc2 : ∀ i, ∃ mb : Mb, i < len → (w.cell? ⟨b, off + i * 3, none⟩ = some (.int .i64 mb.node) ∧ w.cell? ⟨b, off + i * 3 + 1, none⟩ = some (.int .i64 mb.region) ∧ w.cell? ⟨b, off + i * 3 + 2, none⟩ = some (.int .i64 mb.weight)) ∧ I64 mb.node ∧ I64 mb.region ∧ I64 mb.weight := fun i => by
        by_cases hil : i < len
        · obtain ⟨z0, h0, b0⟩ := hc i 0 hil (by omega)
          obtain ⟨z1, h1, b1⟩ := hc i 1 hil (by omega)
          obtain ⟨z2, h2, b2⟩ := hc i 2 hil (by omega)
          rw [Addr.add_lit, ← Nat.add_assoc] at h0 h1 h2
          exact ⟨⟨z0, z1, z2⟩, fun _ => ⟨⟨h0, h1, h2⟩, b0, b1, b2⟩⟩
        · exact ⟨⟨0, 0, 0⟩, fun h => absurd h hil⟩
      obtain ⟨F, hF⟩ : ∃ F : Nat → Mb, ∀ i, i < len → (w.cell? ⟨b, off + i * 3, none⟩ = some (.int .i64 (F i).node) ∧ w.cell? ⟨b, off + i * 3 + 1, none⟩ = some (.int .i64 (F i).region) ∧ w.cell? ⟨b, off + i * 3 + 2, none⟩ = some (.int .i64 (F i).weight)) ∧ I64 (F i).node ∧ I64 (F i).region ∧ I64 (F i).weight := ⟨fun i => Classical.choose (hc2 i), fun i => Classical.choose_spec (hc2 i)⟩
      refine ⟨(List.range len).map F, ⟨by simpa using hlen, fun mb hmb => ?_, ?_⟩, by simp⟩
      · obtain ⟨i, hi', rfl⟩ := List.mem_map.1 hmb
        exact (hF i (List.mem_range.1 hi')).2
      · refine ⟨some ⟨b, off, none⟩, cap, b, off, by simp, by simpa using hl, fun _ => rfl, fun j mb hj => ?_⟩
        rw [List.getElem?_map] at hj
        cases hr : (List.range len)[j]? with
        | none => rw [hr] at hj; simp at hj
        | some j' =>
          rw [hr] at hj
          simp only [Option.map_some, Option.some.injEq] at hj
          obtain ⟨h1, h2⟩ := List.getElem?_eq_some_iff.1 hr
          have hjj : j' = j := by simpa using h2.symm
          have hjl : j < len := by simpa using h1
          subst hj
          rw [hjj]
          exact (hF j hjl).1
end Go.Proofs.YtplkmbfeeegaiaaDoor
