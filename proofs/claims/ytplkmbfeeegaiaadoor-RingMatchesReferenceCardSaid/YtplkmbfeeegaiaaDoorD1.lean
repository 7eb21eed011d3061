/-
  Boxes of three cells; slices that are cut; append to an empty literal.
-/
import Derived.Test.YtplkmbfeeegaiaaDoorB4
namespace Go.Proofs.YtplkmbfeeegaiaaDoor
open Go.RowKit Go.Shelf

/-- A box of three cells. -/
def Box3 (W : World) (z : Nat) (x y u : Value) : Prop := W.cell? ⟨z, 0, none⟩ = some x ∧ W.cell? ⟨z, 1, none⟩ = some y ∧ W.cell? ⟨z, 2, none⟩ = some u ∧ ∀ o, W.frozen? ⟨z, o, none⟩ = false
theorem Box3.lt {W : World} {z : Nat} {x y u : Value} (h : Box3 W z x y u) : z < W.heap.size := World.block_lt_of_cell? _ _ h.1
theorem Box3.keep {W W' : World} {z : Nat} {x y u : Value} {A : Nat → Prop} (h : Box3 W z x y u) (k : Keep A W W') (hz : ¬ A z) : Box3 W' z x y u :=
  ⟨k.cell h.1 hz, k.cell h.2.1 hz, k.cell h.2.2.1 hz, fun o => (k.frozen h.lt hz o).trans (h.2.2.2 o)⟩
theorem Box3.kept {W W' : World} {z : Nat} {x y u : Value} (h : Box3 W z x y u) (k : Keep (fun _ => False) W W') : Box3 W' z x y u := h.keep k (fun h => h)
theorem Box3.set0 {W : World} {z : Nat} {x y u : Value} (h : Box3 W z x y u) (v : Value) : Box3 (W.setCell ⟨z, 0, none⟩ v) z v y u :=
  ⟨cell_set_same h.1, (cell_set_off (by decide)).trans h.2.1, (cell_set_off (by decide)).trans h.2.2.1, fun o => (World.frozen?_setCell _ _ _ _).trans (h.2.2.2 o)⟩
theorem Box3.set1 {W : World} {z : Nat} {x y u : Value} (h : Box3 W z x y u) (v : Value) : Box3 (W.setCell ⟨z, 1, none⟩ v) z x v u :=
  ⟨(cell_set_off (by decide)).trans h.1, cell_set_same h.2.1, (cell_set_off (by decide)).trans h.2.2.1, fun o => (World.frozen?_setCell _ _ _ _).trans (h.2.2.2 o)⟩
theorem Box3.set2 {W : World} {z : Nat} {x y u : Value} (h : Box3 W z x y u) (v : Value) : Box3 (W.setCell ⟨z, 2, none⟩ v) z x y v :=
  ⟨(cell_set_off (by decide)).trans h.1, (cell_set_off (by decide)).trans h.2.1, cell_set_same h.2.2.1, fun o => (World.frozen?_setCell _ _ _ _).trans (h.2.2.2 o)⟩
theorem Box3.other {W : World} {z b o : Nat} {x y u : Value} (h : Box3 W z x y u) (hb : b ≠ z) (v : Value) : Box3 (W.setCell ⟨b, o, none⟩ v) z x y u :=
  ⟨(cell_set_blk hb).trans h.1, (cell_set_blk hb).trans h.2.1, (cell_set_blk hb).trans h.2.2.1, fun o => (World.frozen?_setCell _ _ _ _).trans (h.2.2.2 o)⟩
theorem Box3.new (W : World) (x y u : Value) (t : TypeId) : Box3 (W.alloc (.cells #[x, y, u] t)) W.heap.size x y u := three_cell W x y u t

theorem Mbs.cut {W : World} {a : Option Addr} {n c : Nat} {l : List Mb} (h : Mbs W (.slice a n c) l) {q : Nat} (hq : q ≤ n) : Mbs W (.slice a q c) (l.take q) ∧ (l.take q).length = q ∧ n ≤ c := by
  obtain ⟨h1, h2, a', c', b, off, e, hc, ha, hcell⟩ := h
  obtain ⟨rfl, rfl, rfl⟩ := Value.slice.inj e
  have hl : (l.take q).length = q := by rw [List.length_take]; omega
  refine ⟨⟨by omega, fun m hm => h2 m (List.mem_of_mem_take hm), a, c, b, off, by rw [hl], by omega, fun h => ha (by omega), fun j x hj => hcell j x ?_⟩, hl, hc⟩
  have := (List.getElem?_eq_some_iff.1 hj).1
  rwa [List.getElem?_take_of_lt (by omega)] at hj
theorem Its.cut {W : World} {a : Option Addr} {n c : Nat} {l : List Int} (h : Its W (.slice a n c) l) {q : Nat} (hq : q ≤ n) : Its W (.slice a q c) (l.take q) ∧ (l.take q).length = q ∧ n ≤ c := by
  obtain ⟨h1, h2, a', c', b, off, e, hc, ha, hcell⟩ := h
  obtain ⟨rfl, rfl, rfl⟩ := Value.slice.inj e
  have hl : (l.take q).length = q := by rw [List.length_take]; omega
  refine ⟨⟨by omega, fun m hm => h2 m (List.mem_of_mem_take hm), a, c, b, off, by rw [hl], by omega, fun h => ha (by omega), fun j x hj => hcell j x ?_⟩, hl, hc⟩
  have := (List.getElem?_eq_some_iff.1 hj).1
  rwa [List.getElem?_take_of_lt (by omega)] at hj

theorem own_form {W : World} {lo : Nat} {e : TypeId} {z n : Nat} {v : Value} {xs : List Value} (h : W.ownsRow lo e z v n xs) : ∃ a c, v = .slice a n c := by
  rcases h.2 with ⟨rfl, h2⟩ | ⟨g, c, cur, rfl, _⟩
  · exact ⟨none, 0, by rw [h2]⟩
  · exact ⟨_, _, rfl⟩
theorem run_append_owned_cap {P : Program} (w : World) (base : Nat) (t ty e : TypeId) (i : TypeInfo) (size : Nat) (ht : P.underlying t = some (.slice e)) (hi : P.info? e = some i)
    (v : Value) (n : Nat) (xs : List Value) (hown : w.ownsRow base e size v n xs) (c : Nat) :
    (Builtin.append_ #[t, t] ty #[v, .slice none 0 c]).run P w = .ok v w := by
  rcases hown.2 with ⟨rfl, rfl⟩ | ⟨g, cap, cur, rfl, _, _, hnc, _⟩
  · simp [Builtin.append_, run_underlying ht, sizeOf, typeInfo, hi, Builtin.lenOf, Builtin.firstCells]
  · simp [Builtin.append_, run_underlying ht, sizeOf, typeInfo, hi, Builtin.lenOf, Builtin.firstCells, hnc, storeCells]
/-- More members behind an own row, none too. -/
theorem app_mbs0 (W : World) (ty lo : Nat) (v src : Value) (l ys : List Mb) (hown : W.ownsRow lo 25 3 v l.length (flatB l)) (hs : Mbs W src ys) (hn : l.length + ys.length ≤ 100000) (hlo : lo ≤ W.heap.size) :
    ∃ v' w', (Builtin.append_ #[22, 22] ty #[v, src]).run Tryd.prog W = .ok v' w' ∧ w'.ownsRow lo 25 3 v' (l ++ ys).length (flatB (l ++ ys)) ∧
      Keep (fun k => v.ownBlock = some k) W w' := by
  by_cases hne : 0 < ys.length
  · obtain ⟨v', w', h1, h2, h3, _⟩ := app_mbs W ty lo v src l ys hown hs hne hn hlo
    exact ⟨v', w', h1, h2, h3⟩
  · obtain ⟨hn2, hb, a, c, b, off, rfl, hc, ha, hcell⟩ := hs
    have : ys = [] := List.eq_nil_of_length_eq_zero (by omega)
    subst this
    obtain ⟨i0, hi, hz0, hz1, hz2⟩ := info_parts infoMb
    cases a with
    | none => exact ⟨v, W, run_append_owned_cap W lo 22 ty 25 i0 3 Tryd.underlying22 hi v l.length _ hown c, by rw [List.append_nil]; exact hown, Keep.refl _ W⟩
    | some ad =>
      obtain ⟨v', w', r1, r2, r3, r4, r5⟩ := run_append_own_at (P := Tryd.prog) W lo 22 ty 25 i0 _ 3 24 Tryd.underlying22 hi hz0 hz1 hz2 rfl (by decide) v l.length (flatB l) hown ad 0 c [] (by simp)
        (by intro j u hj; simp at hj) (by simp) (by unfold maxLen; omega) (by omega) hlo
      refine ⟨v', w', r1, ?_, Keep.of_grown r3⟩
      rw [List.append_nil] at r2 ⊢
      exact r2
theorem app_its0 (W : World) (ty lo : Nat) (v src : Value) (l ys : List Int) (hown : W.ownsRow lo 3 1 v l.length (l.map (fun x => Value.int .i64 x))) (hs : Its W src ys) (hn : l.length + ys.length ≤ 100000) (hlo : lo ≤ W.heap.size) :
    ∃ v' w', (Builtin.append_ #[26, 26] ty #[v, src]).run Tryd.prog W = .ok v' w' ∧ w'.ownsRow lo 3 1 v' (l ++ ys).length ((l ++ ys).map (fun x => Value.int .i64 x)) ∧
      Keep (fun k => v.ownBlock = some k) W w' := by
  obtain ⟨hn2, hb, a, c, b, off, rfl, hc, ha, hcell⟩ := hs
  obtain ⟨i0, hi, hz0, hz1, hz2⟩ := info_parts infoInt
  cases a with
  | none =>
    have : ys = [] := by
      apply List.eq_nil_of_length_eq_zero
      rcases Nat.eq_zero_or_pos ys.length with h | h
      · exact h
      · exact absurd (ha h) (by simp)
    subst this
    exact ⟨v, W, run_append_owned_cap W lo 26 ty 3 i0 1 Tryd.underlying26 hi v l.length _ hown c, by rw [List.append_nil]; exact hown, Keep.refl _ W⟩
  | some ad =>
    obtain ⟨v', w', r1, r2, r3, r4, r5⟩ := run_append_own_at (P := Tryd.prog) W lo 26 ty 3 i0 _ 1 8 Tryd.underlying26 hi hz0 hz1 hz2 rfl (by decide) v l.length _ hown ad ys.length c (ys.map (fun x => Value.int .i64 x)) (by simp)
      (by
        intro j u hj
        rw [List.getElem?_map] at hj
        cases hx : ys[j]? with
        | none => rw [hx] at hj; cases hj
        | some x =>
          rw [hx] at hj
          cases hj
          have := (List.getElem?_eq_some_iff.1 hx).1
          have e := ha (by omega)
          cases e
          rw [Addr.add_lit]
          exact hcell j x hx)
      (by
        intro u hu
        obtain ⟨x, _, rfl⟩ := List.mem_map.1 hu
        rfl) (by unfold maxLen; omega) (by omega) hlo
    refine ⟨v', w', r1, ?_, Keep.of_grown r3⟩
    rw [List.map_append, List.length_append]
    exact r2
/-- A copy of its own: append to an empty literal. -/
theorem lit_mbs (W : World) (v : Value) (l : List Mb) (h : Mbs W v l) (hl : l.length ≤ 1000) :
    ∃ a c W', (Builtin.append_ #[22, 22] 22 #[.slice (some ⟨W.heap.size, 0, none⟩) 0 0, v]).run Tryd.prog (W.alloc (.cells #[] 25)) = .ok (.slice a l.length c) W' ∧ Keep (fun _ => False) W W' ∧ W'.ownsRow W.heap.size 25 3 (.slice a l.length c) l.length (flatB l) := by
  have k1 : Keep (fun _ => False) W (W.alloc (.cells #[] 25)) := (Keep.refl _ W).alloc _
  obtain ⟨v', W2, hr, hown, hkp⟩ := app_mbs0 (W.alloc (.cells #[] 25)) 22 W.heap.size (.slice (some ⟨W.heap.size, 0, none⟩) 0 0) v [] l (World.ownsRow_lit W #[] 0 (Nat.le_refl _) (by decide) rfl) (h.kept k1) (by simp; omega) (by simp)
  rw [List.nil_append] at hown
  obtain ⟨a, c, rfl⟩ := own_form hown
  exact ⟨a, c, W2, hr, k1.trans' hkp (fun j e => by cases e; exact .inr (Nat.le_refl _)), hown⟩
theorem lit_its (W : World) (v : Value) (l : List Int) (h : Its W v l) (hl : l.length ≤ 1000) :
    ∃ a c W', (Builtin.append_ #[26, 26] 26 #[.slice (some ⟨W.heap.size, 0, none⟩) 0 0, v]).run Tryd.prog (W.alloc (.cells #[] 3)) = .ok (.slice a l.length c) W' ∧ Keep (fun _ => False) W W' ∧ W'.ownsRow W.heap.size 3 1 (.slice a l.length c) l.length (l.map (fun x => Value.int .i64 x)) := by
  have k1 : Keep (fun _ => False) W (W.alloc (.cells #[] 3)) := (Keep.refl _ W).alloc _
  obtain ⟨v', W2, hr, hown, hkp⟩ := app_its0 (W.alloc (.cells #[] 3)) 26 W.heap.size (.slice (some ⟨W.heap.size, 0, none⟩) 0 0) v [] l (World.ownsRow_lit W #[] 0 (Nat.le_refl _) (by decide) rfl) (h.kept k1) (by simp; omega) (by simp)
  rw [List.nil_append] at hown
  obtain ⟨a, c, rfl⟩ := own_form hown
  exact ⟨a, c, W2, hr, k1.trans' hkp (fun j e => by cases e; exact .inr (Nat.le_refl _)), hown⟩
end Go.Proofs.YtplkmbfeeegaiaaDoor
