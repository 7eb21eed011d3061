/-
  slices.Equal; Same of package ring.
-/
import Derived.Test.YtplkmbfeeegaiaaDoorB4
namespace Go.Proofs.YtplkmbfeeegaiaaDoor
open Go.RowKit Go.Shelf

set_option maxRecDepth 100000 in
set_option maxHeartbeats 2000000 in
theorem eqInt_any (va vb : Value) (xs ys : List Int) (w : World) (ha : Its w va xs) (hb : Its w vb ys) : Calls Tryd.prog 57 #[va, vb] w fun e w' => e = .returned (.bool (decide (xs = ys))) ∧ Keep (fun _ => False) w w' := by
  obtain ⟨hn1, -, a, c, b, off, rfl, hc, ha, hcell⟩ := ha
  obtain ⟨hn2, -, a', c', b', off', rfl, hc', ha', hcell'⟩ := hb
  have HCA := Lib.hid hcell
  have HCB := Lib.hid hcell'
  have HAA := Lib.hid ha
  have HAB := Lib.hid ha'
  clear hcell hcell' ha ha'
  by_cases hl : xs.length = ys.length
  · obtain ⟨n, hn⟩ : ∃ n, xs.length = n := ⟨_, rfl⟩
    have hny : ys.length = n := by omega
    have HN := Lib.hid hn
    have HNY := Lib.hid hny
    rw [hn] at hn1 hc ⊢
    rw [hny] at hn2 hc' ⊢
    have hd : ((n : Int) != (n : Int)) = false := by simp
    clear hl hn hny
    go_enter Tryd.func57, Tryd.ntmps57
    go_wp2_with fail
    go_loopg [13] (n) (fun gh i wr => ∃ (k m : Nat), gh + k = n ∧ i = .int .i64 k ∧ wr = w.drewN m ∧ Hid (xs.take k = ys.take k))
    case atStart => exact ⟨0, 0, Nat.add_zero _, rfl, rfl, rfl⟩
    case round =>
      obtain ⟨k, m, hk, rfl, rfl, HE⟩ := hrel
      by_cases hlt : k < n
      · have hkx : k < xs.length := by rw [HN.out]; exact hlt
        have hky : k < ys.length := by rw [HNY.out]; exact hlt
        obtain rfl := HAA.out (by omega)
        obtain rfl := HAB.out (by omega)
        have t1 : xs.take (k + 1) = xs.take k ++ [xs[k]] := by rw [List.take_add_one, List.getElem?_eq_getElem hkx]; rfl
        have t2 : ys.take (k + 1) = ys.take k ++ [ys[k]] := by rw [List.take_add_one, List.getElem?_eq_getElem hky]; rfl
        have hb0 : (0 : Int) ≤ (k : Int) := by omega
        have hb1 : (k : Int) < (n : Int) := by omega
        have ca0 := HCA.out k _ (List.getElem?_eq_getElem hkx)
        have cb0 := HCB.out k _ (List.getElem?_eq_getElem hky)
        -- the elements
        by_cases hst : xs[k] = ys[k]
        · have HT : Hid (xs.take (k + 1) = ys.take (k + 1)) := by
            show _ = _
            rw [t1, t2, HE.out, hst]
          rw [← hst] at cb0
          clear t1 t2 hst
          generalize xs[k] = x at *
          clear hkx hky
          have hb : (x != x) = false := by simp
          go_wp2_with fail
          go_quiet (fail)
          go_wp2_with fail
          go_roundg (gk - 1)
          case rel => exact ⟨k + 1, _, by omega, by go_num, by first | rfl | exact World.drewN_drewN _ _ _, HT⟩
          case measure => omega
        · have HT : Hid (decide (xs = ys) = false) := Lib.hid (by
            rw [decide_eq_false_iff_not]
            intro e
            subst e
            exact hst rfl)
          generalize xs[k] = x at *
          generalize ys[k] = y at *
          have hb : (x != y) = true := by simpa using hst
          clear hkx hky t1 t2 hst
          go_wp2_with fail
          go_quiet (fail)
          go_wp2_with fail
          go_ret
          exact ⟨by rw [HT.out]; rfl, ((Keep.refl _ w).drewN _).drewN _⟩
      · have HT : Hid (decide (xs = ys) = true) := by
          show _ = _
          rw [decide_eq_true_eq]
          have h1 := HE.out
          rw [List.take_of_length_le (by have := HN.out; omega), List.take_of_length_le (by have := HNY.out; omega)] at h1
          exact h1
        go_wp2_with fail
        go_ret
        exact ⟨by rw [HT.out]; rfl, (Keep.refl _ w).drewN _⟩
  · have hd : ((xs.length : Int) != (ys.length : Int)) = true := by simp; omega
    have HT : Hid (decide (xs = ys) = false) := by
      show _ = _
      rw [decide_eq_false_iff_not]
      intro e
      subst e
      exact hl rfl
    go_enter Tryd.func57, Tryd.ntmps57
    go_wp2_with fail
    go_ret
    exact ⟨by rw [HT.out]; rfl, Keep.refl _ w⟩

set_option maxRecDepth 100000 in
set_option maxHeartbeats 2000000 in
theorem eqMb_any (va vb : Value) (xs ys : List Mb) (w : World) (ha : Mbs w va xs) (hb : Mbs w vb ys) : Calls Tryd.prog 56 #[va, vb] w fun e w' => e = .returned (.bool (decide (xs = ys))) ∧ Keep (fun _ => False) w w' := by
  obtain ⟨hn1, -, a, c, b, off, rfl, hc, ha, hcell⟩ := ha
  obtain ⟨hn2, -, a', c', b', off', rfl, hc', ha', hcell'⟩ := hb
  have HCA := Lib.hid hcell
  have HCB := Lib.hid hcell'
  have HAA := Lib.hid ha
  have HAB := Lib.hid ha'
  clear hcell hcell' ha ha'
  by_cases hl : xs.length = ys.length
  · obtain ⟨n, hn⟩ : ∃ n, xs.length = n := ⟨_, rfl⟩
    have hny : ys.length = n := by omega
    have HN := Lib.hid hn
    have HNY := Lib.hid hny
    rw [hn] at hn1 hc ⊢
    rw [hny] at hn2 hc' ⊢
    have hd : ((n : Int) != (n : Int)) = false := by simp
    clear hl hn hny
    go_enter Tryd.func56, Tryd.ntmps56
    go_wp2_with fail
    go_loopg [13] (n) (fun gh i wr => ∃ (k m : Nat), gh + k = n ∧ i = .int .i64 k ∧ wr = w.drewN m ∧ Hid (xs.take k = ys.take k))
    case atStart => exact ⟨0, 0, Nat.add_zero _, rfl, rfl, rfl⟩
    case round =>
      obtain ⟨k, m, hk, rfl, rfl, HE⟩ := hrel
      by_cases hlt : k < n
      · have hkx : k < xs.length := by rw [HN.out]; exact hlt
        have hky : k < ys.length := by rw [HNY.out]; exact hlt
        obtain rfl := HAA.out (by omega)
        obtain rfl := HAB.out (by omega)
        have t1 : xs.take (k + 1) = xs.take k ++ [xs[k]] := by rw [List.take_add_one, List.getElem?_eq_getElem hkx]; rfl
        have t2 : ys.take (k + 1) = ys.take k ++ [ys[k]] := by rw [List.take_add_one, List.getElem?_eq_getElem hky]; rfl
        have hb0 : (0 : Int) ≤ (k : Int) := by omega
        have hb1 : (k : Int) < (n : Int) := by omega
        obtain ⟨ca0, ca1, ca2⟩ := HCA.out k _ (List.getElem?_eq_getElem hkx)
        obtain ⟨cb0, cb1, cb2⟩ := HCB.out k _ (List.getElem?_eq_getElem hky)
        have hgd : Tryd.prog.eqGuardType Tryd.prog.depth 25 = false := by kernel_rfl
        -- the elements
        by_cases hst : xs[k] = ys[k]
        · have HT : Hid (xs.take (k + 1) = ys.take (k + 1)) := by
            show _ = _
            rw [t1, t2, HE.out, hst]
          rw [← hst] at cb0 cb1 cb2
          clear t1 t2 hst
          generalize xs[k] = x at *
          clear hkx hky
          obtain ⟨x0, x1, x2⟩ := x
          simp only [] at ca0 ca1 ca2 cb0 cb1 cb2
          go_wp2_with fail
          go_quiet (fail)
          go_wp2_with fail
          go_roundg (gk - 1)
          case rel => exact ⟨k + 1, _, by omega, by go_num, by first | rfl | exact World.drewN_drewN _ _ _, HT⟩
          case measure => omega
        · have HT : Hid (decide (xs = ys) = false) := Lib.hid (by
            rw [decide_eq_false_iff_not]
            intro e
            subst e
            exact hst rfl)
          generalize xs[k] = x at *
          generalize ys[k] = y at *
          obtain ⟨x0, x1, x2⟩ := x
          obtain ⟨y0, y1, y2⟩ := y
          simp only [] at ca0 ca1 ca2 cb0 cb1 cb2
          have hst' : ¬ (x0 = y0 ∧ x1 = y1 ∧ x2 = y2) := fun ⟨a, b, c⟩ => hst (by rw [a, b, c])
          clear hkx hky t1 t2 hst
          by_cases q1 : x0 = y0
          · by_cases q2 : x1 = y1
            · have q3 : ¬ x2 = y2 := fun h => hst' ⟨q1, q2, h⟩
              clear hst'
              go_wp2_with fail
              go_quiet (fail)
              go_wp2_with fail
              go_ret
              exact ⟨by rw [HT.out]; rfl, ((Keep.refl _ w).drewN _).drewN _⟩
            · clear hst'
              go_wp2_with fail
              go_quiet (fail)
              go_wp2_with fail
              go_ret
              exact ⟨by rw [HT.out]; rfl, ((Keep.refl _ w).drewN _).drewN _⟩
          · clear hst'
            go_wp2_with fail
            go_quiet (fail)
            go_wp2_with fail
            go_ret
            exact ⟨by rw [HT.out]; rfl, ((Keep.refl _ w).drewN _).drewN _⟩
      · have HT : Hid (decide (xs = ys) = true) := by
          show _ = _
          rw [decide_eq_true_eq]
          have h1 := HE.out
          rw [List.take_of_length_le (by have := HN.out; omega), List.take_of_length_le (by have := HNY.out; omega)] at h1
          exact h1
        go_wp2_with fail
        go_ret
        exact ⟨by rw [HT.out]; rfl, (Keep.refl _ w).drewN _⟩
  · have hd : ((xs.length : Int) != (ys.length : Int)) = true := by simp; omega
    have HT : Hid (decide (xs = ys) = false) := by
      show _ = _
      rw [decide_eq_false_iff_not]
      intro e
      subst e
      exact hl rfl
    go_enter Tryd.func56, Tryd.ntmps56
    go_wp2_with fail
    go_ret
    exact ⟨by rw [HT.out]; rfl, Keep.refl _ w⟩

end Go.Proofs.YtplkmbfeeegaiaaDoor
