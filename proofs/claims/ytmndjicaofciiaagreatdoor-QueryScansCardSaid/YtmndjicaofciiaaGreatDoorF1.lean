/-
  A slice of arrays of five ints that came in.
-/
import Derived.Test.YtmndjicaofciiaaGreatDoorY2
import Derived.Test.YtmndjicaofciiaaGreatDoorF0
import Derived.Deep.Fields
import Derived.Laws.IdiomArrays
namespace Go.Proofs.YtmndjicaofciiaaGreatDoor
open Go.ChangeShapes Go.WideShapes Go.ChangeAt Go.RowKit Go.Shelf

theorem trod_array5 {H : Type} {enc : TypeId × Value → H} {P : Program} {w : World} {base : Nat} {spare : Nat → Bool} {held : Bool} {t e : TypeId} {fuel : Nat} {c0 c1 c2 c3 c4 : Value} {x : DataW H × List MemPlace} (ht : P.underlying t = some (.array 5 e)) (hce : P.cellsOf e = 1)
    (h : DataW.trod enc P w base spare held fuel t [c0, c1, c2, c3, c4] = some x) :
    ∃ y0 y1 y2 y3 y4 n, x = (.agg [y0.1, y1.1, y2.1, y3.1, y4.1], y0.2 ++ (y1.2 ++ (y2.2 ++ (y3.2 ++ y4.2)))) ∧ DataW.trod enc P w base spare held n e [c0] = some y0 ∧ DataW.trod enc P w base spare held n e [c1] = some y1 ∧ DataW.trod enc P w base spare held n e [c2] = some y2 ∧ DataW.trod enc P w base spare held n e [c3] = some y3 ∧ DataW.trod enc P w base spare held n e [c4] = some y4 := by
  cases fuel with
  | zero => simp [DataW.trod] at h
  | succ n =>
    unfold DataW.trod at h
    rw [ht] at h
    have r5 : List.range 5 = [0, 1, 2, 3, 4] := rfl
    simp [r5, hce] at h
    obtain ⟨_, h⟩ := h
    cases h0 : DataW.trod enc P w base spare held n e [c0] with
    | none => simp [h0] at h
    | some y0 =>
      cases h1 : DataW.trod enc P w base spare held n e [c1] with
      | none => simp [h0, h1] at h
      | some y1 =>
        cases h2 : DataW.trod enc P w base spare held n e [c2] with
        | none => simp [h0, h1, h2] at h
        | some y2 =>
          cases h3 : DataW.trod enc P w base spare held n e [c3] with
          | none => simp [h0, h1, h2, h3] at h
          | some y3 =>
            cases h4 : DataW.trod enc P w base spare held n e [c4] with
            | none => simp [h0, h1, h2, h3, h4] at h
            | some y4 =>
              simp [h0, h1, h2, h3, h4] at h
              exact ⟨y0, y1, y2, y3, y4, n, h.symm, h0, h1, h2, h3, h4⟩
theorem cells5 : Tryz.prog.cellsOf 49 = 5 := by kernel_rfl
theorem bytes5 : Tryz.prog.bytesOf 49 = 40 := by kernel_rfl
theorem five_cells {H : Type} {enc : TypeId × Value → H} {w : World} {base n : Nat} {spare : Nat → Bool} {held : Bool} {a : Addr} {cs : List Value} {x : DataW H × List MemPlace} (hc : w.cells? base a (Tryz.prog.cellsOf 49) = some cs)
    (ht : DataW.trod enc Tryz.prog w base spare held n 49 cs = some x) (j : Nat) (hj : j < 5) : ∃ z, w.cell? (a.add j) = some (.int .i64 z) ∧ -9223372036854775808 ≤ z ∧ z ≤ 9223372036854775807 := by
  rw [cells5] at hc
  obtain ⟨_, hcl, hat⟩ := World.cells?_some hc
  obtain ⟨c0, c1, c2, c3, c4, rfl⟩ : ∃ c0 c1 c2 c3 c4, cs = [c0, c1, c2, c3, c4] := by
    match cs, hcl with
    | [c0, c1, c2, c3, c4], _ => exact ⟨c0, c1, c2, c3, c4, rfl⟩
  obtain ⟨y0, y1, y2, y3, y4, m, -, t0, t1, t2, t3, t4⟩ := trod_array5 Tryz.underlying49 cellsI ht
  have key : ∀ (c : Value) (y : DataW H × List MemPlace), DataW.trod enc Tryz.prog w base spare held m 3 [c] = some y → ∃ z, c = .int .i64 z ∧ -9223372036854775808 ≤ z ∧ z ≤ 9223372036854775807 := fun c y h => by
    obtain ⟨z, hz, _, hwf⟩ := DataW.trod_int Tryz.underlying3 h
    exact ⟨z, (List.cons.inj hz).1, bounds_i64 hwf⟩
  have h1 := hat j hj
  match j, hj with
  | 0, _ => obtain ⟨z, e, hb⟩ := key _ _ t0; exact ⟨z, by rw [h1, e]; rfl, hb⟩
  | 1, _ => obtain ⟨z, e, hb⟩ := key _ _ t1; exact ⟨z, by rw [h1, e]; rfl, hb⟩
  | 2, _ => obtain ⟨z, e, hb⟩ := key _ _ t2; exact ⟨z, by rw [h1, e]; rfl, hb⟩
  | 3, _ => obtain ⟨z, e, hb⟩ := key _ _ t3; exact ⟨z, by rw [h1, e]; rfl, hb⟩
  | 4, _ => obtain ⟨z, e, hb⟩ := key _ _ t4; exact ⟨z, by rw [h1, e]; rfl, hb⟩

theorem fives_open {H : Type} {enc : TypeId × Value → H} {w : World} {base fuel : Nat} {spare : Nat → Bool} {held : Bool} {a : Option Addr} {len cap : Nat} {x : DataW H × List MemPlace} (h : DataW.trod enc Tryz.prog w base spare held fuel 22 [.slice a len cap] = some x) (hlen : len ≤ 1000000000000000) : ∃ f, Fives w (.slice a len cap) len f := by
  rcases Go.Deep.open_slice Tryz.underlying22 h with ⟨h0, _⟩ | ⟨ad, l, c, m, n, D, Pl, hcs, hb, hl, hm, hmm, hx, hi⟩
  · cases h0
    exact ⟨fun _ _ => 0, ⟨by simp, fun _ _ => by unfold I64; decide, none, 0, 0, 0, rfl, by simp, fun h => by simp at h, fun i j hi => by simp at hi⟩⟩
  · cases hcs
    have hlm : len ≤ m := by rw [hmm]; split <;> omega
    have hc : ∀ i j, i < len → j < 5 → ∃ z, w.cell? (ad.add (i * 5 + j)) = some (.int .i64 z) ∧ -9223372036854775808 ≤ z ∧ z ≤ 9223372036854775807 := fun i j hi' hj => by
      obtain ⟨cs', h1, h2⟩ := hi i (by omega)
      obtain ⟨z, hz, hb⟩ := five_cells h1 h2 j hj
      rw [cells5, Go.Deep.add_add] at hz
      exact ⟨z, hz, hb⟩
    obtain ⟨b, off, spot⟩ := ad
    by_cases hl0 : len = 0
    · subst hl0
      exact ⟨fun _ _ => 0, ⟨by simp, fun _ _ => by unfold I64; decide, some ⟨b, off, spot⟩, cap, b, off, rfl, hl, fun h => by simp at h, fun i j hi => by simp at hi⟩⟩
    · obtain ⟨z0, hz0, _⟩ := hc 0 0 (by omega) (by omega)
      have hspot : spot = none := by simpa [Addr.add] using World.cell?_spot hz0
      subst hspot
      have hc2 : ∀ i j, ∃ z : Int, (i < len → j < 5 → w.cell? ⟨b, off + i * 5 + j, none⟩ = some (.int .i64 z)) ∧ I64 z := fun i j => by
        by_cases hil : i < len ∧ j < 5
        · obtain ⟨z, h0, b0⟩ := hc i j hil.1 hil.2
          rw [Addr.add_lit, ← Nat.add_assoc] at h0
          exact ⟨z, fun _ _ => h0, b0⟩
        · exact ⟨0, fun h1 h2 => absurd ⟨h1, h2⟩ hil, by unfold I64; decide⟩
      exact ⟨fun i j => Classical.choose (hc2 i j), ⟨hlen, fun i j => (Classical.choose_spec (hc2 i j)).2, some ⟨b, off, none⟩, cap, b, off, rfl, hl, fun _ => rfl, fun i j hi hj => (Classical.choose_spec (hc2 i j)).1 hi hj⟩⟩
theorem fives_open' {H : Type} {enc : TypeId × Value → H} {w : World} {base fuel : Nat} {spare : Nat → Bool} {held : Bool} {a : Option Addr} {len cap : Nat} {x : DataW H × List MemPlace} (h : DataW.trod enc Tryz.prog w base spare held fuel 22 [.slice a len cap] = some x)
    (hs : ∀ el sp, x.1 = .slice el sp → (el.length + sp.length) * Tryz.prog.bytesOf 49 ≤ reachBytes) : ∃ f, Fives w (.slice a len cap) len f := by
  refine fives_open h ?_
  have hl := Go.Joins.sliceLen_trod (d := x.1) (ps := x.2) Tryz.underlying22 h
  cases e : x.1 with
  | slice el sp =>
    rw [e] at hl
    have h1 := hs el sp e
    rw [bytes5] at h1
    simp only [Go.Joins.sliceLen] at hl
    unfold reachBytes at h1
    omega
  | _ =>
    rw [e] at hl
    simp only [Go.Joins.sliceLen] at hl
    omega
end Go.Proofs.YtmndjicaofciiaaGreatDoor
