/-
  Same, pick, names.
-/
import Derived.Test.YtogkkghliogpeaaE3
import Derived.Laws.StructEq
namespace Go.Proofs.Ytogkkghliogpeaa
open Go.RowKit Go.Shelf

theorem K3.eq_iff (x y : K3) : x = y ↔ x.key.toList = y.key.toList ∧ x.n = y.n ∧ x.e = y.e := by
  cases x; cases y
  simp only [K3.mk.injEq]
  exact ⟨fun ⟨a, b, c⟩ => ⟨by rw [a], b, c⟩, fun ⟨a, b, c⟩ => ⟨toList_inj a, b, c⟩⟩

theorem neq_ctr (x y : K3) (w : World) : (binOp .neq 37 (ctrV x.key x.n x.e) (ctrV y.key y.n y.e)).run Try.prog w = .ok (.bool (!decide (x = y))) w := by
  have u3 := Try.underlying3
  have a3 := Try.isAgg3
  have z3 := Try.sizeOf3
  have u9 := Try.underlying9
  have a9 := Try.isAgg9
  have z9 := Try.sizeOf9
  have hS : Try.prog.underlying 37 = some (.struct (Try.prog.fieldsOf 37)) := by kernel_rfl
  have hp : Try.prog.stoodInHeld 37 = false := by kernel_rfl
  rw [run_neq_struct, show (10000 : Nat) = 9999 + 1 from rfl, run_equalIn_agg w 9999 37 _ _ hS hp]
  simp only [Program.fieldsOf, Try.underlying37, K3.eq_iff]
  go_simp
  by_cases h1 : x.key.toList = y.key.toList <;> by_cases h2 : x.n = y.n <;> by_cases h3 : x.e = y.e <;> simp [h1, h2, h3]

theorem ctrs_empty {W : World} {v : Value} (h : CtrsAt W v []) : ∃ a c, v = .slice a 0 c := by
  obtain ⟨a, c, rfl, _⟩ := h
  exact ⟨a, c, rfl⟩

set_option maxRecDepth 100000 in
set_option maxHeartbeats 1000000 in
theorem same_any (va vb : Value) (xs ys : List K3) (w : World) (ha : CtrsAt w va xs) (hb : CtrsAt w vb ys) (hx : xs.length ≤ 1000000) (hy : ys.length ≤ 1000000) :
    Calls Try.prog 19 #[va, vb] w fun e w' => e = .returned (.bool (decide (xs = ys))) ∧ ∃ k, w' = w.drewN k := by
  obtain ⟨a, c, rfl, ha⟩ := ha
  obtain ⟨b, d, rfl, hb⟩ := hb
  by_cases hl : xs.length = ys.length
  · by_cases h0 : xs.length = 0
    · have e1 : xs = [] := List.eq_nil_of_length_eq_zero h0
      have e2 : ys = [] := List.eq_nil_of_length_eq_zero (hl ▸ h0)
      subst e1; subst e2
      clear ha hb
      have hd : ((0 : Int) != 0) = false := by decide
      go_enter Try.func19, Try.ntmps19
      go_wp2
      go_loop [5] (fun i => i = .int .i64 0) (fun _ => 0)
      case atStart => rfl
      case round =>
        subst hrel
        go_wp2
        go_ret
        exact ⟨by simp, 0, rfl⟩
    · obtain ⟨x0, hx0⟩ : ∃ x, xs[0]? = some x := ⟨_, List.getElem?_eq_getElem (by omega)⟩
      obtain ⟨y0, hy0⟩ : ∃ y, ys[0]? = some y := ⟨_, List.getElem?_eq_getElem (by omega)⟩
      obtain ⟨ba, oa, rfl, _⟩ := ha 0 x0 hx0
      obtain ⟨bb, ob, rfl, _⟩ := hb 0 y0 hy0
      have hca : ∀ (j : Nat) (x : K3), xs[j]? = some x → w.cell? ⟨ba, oa + j * 3, none⟩ = some (.string x.key) ∧ w.cell? ⟨ba, oa + j * 3 + 1, none⟩ = some (.int .i64 x.n) ∧ w.cell? ⟨ba, oa + j * 3 + 2, none⟩ = some (.int .i64 x.e) := fun j s hj => by obtain ⟨b', o', e, h⟩ := ha j s hj; cases e; exact h
      have hcb : ∀ (j : Nat) (x : K3), ys[j]? = some x → w.cell? ⟨bb, ob + j * 3, none⟩ = some (.string x.key) ∧ w.cell? ⟨bb, ob + j * 3 + 1, none⟩ = some (.int .i64 x.n) ∧ w.cell? ⟨bb, ob + j * 3 + 2, none⟩ = some (.int .i64 x.e) := fun j s hj => by obtain ⟨b', o', e, h⟩ := hb j s hj; cases e; exact h
      clear ha hb hx0 hy0
      obtain ⟨n, hn⟩ : ∃ n, n = xs.length := ⟨_, rfl⟩
      have hny : ys.length = n := by omega
      have HN := Lib.hid hn
      have HNY := Lib.hid hny
      rw [← hn, hny]
      have hnb : n ≤ 1000000 := by omega
      have hd : ((n : Int) != (n : Int)) = false := by simp
      have HCA := Lib.hid hca; clear hca
      have HCB := Lib.hid hcb; clear hcb
      clear hl h0 hx hy hn hny
      go_enter Try.func19, Try.ntmps19
      go_wp2
      go_loopg [5] (n) (fun gh i wr => ∃ (k m : Nat), gh + k = n ∧ i = .int .i64 k ∧ wr = w.drewN m ∧ Hid (xs.take k = ys.take k))
      case atStart => exact ⟨0, 0, Nat.add_zero _, rfl, rfl, rfl⟩
      case round =>
        obtain ⟨k, m, hk, rfl, rfl, HE⟩ := hrel
        have HKK := Lib.hid hk; clear hk
        have hk : k ≤ n := by have := HKK.out; omega
        by_cases hlt : k < n
        · have hkx : k < xs.length := by rw [← HN.out]; exact hlt
          have hky : k < ys.length := by rw [HNY.out]; exact hlt
          obtain ⟨ca0, ca1, ca2⟩ := HCA.out k _ (List.getElem?_eq_getElem hkx)
          obtain ⟨cb0, cb1, cb2⟩ := HCB.out k _ (List.getElem?_eq_getElem hky)
          have t1 : xs.take (k + 1) = xs.take k ++ [xs[k]] := by rw [List.take_add_one, List.getElem?_eq_getElem hkx]; rfl
          have t2 : ys.take (k + 1) = ys.take k ++ [ys[k]] := by rw [List.take_add_one, List.getElem?_eq_getElem hky]; rfl
          have hb0 : (0 : Int) ≤ (k : Int) := by omega
          have hb1 : (k : Int) < (n : Int) := by omega
          have hgd : Try.prog.eqGuardType Try.prog.depth 37 = false := by kernel_rfl
          by_cases hst : xs[k] = ys[k]
          · have HT : Hid (xs.take (k + 1) = ys.take (k + 1)) := by
              show _ = _
              rw [t1, t2, HE.out, hst]
            rw [← hst] at cb0 cb1 cb2
            clear t1 t2 hst
            generalize xs[k] = s at *
            clear hkx hky
            go_wp2
            go_quiet (fail)
            go_wp2
            go_roundg (gk - 1)
            case rel => exact ⟨k + 1, _, by have := HKK.out; omega, by go_num, rfl, HT⟩
            case measure => have := HKK.out; omega
          · have HT : Hid (decide (xs = ys) = false) := by
              show _ = _
              rw [decide_eq_false_iff_not]
              intro e
              subst e
              exact hst rfl
            rw [K3.eq_iff] at hst
            clear t1 t2
            generalize xs[k] = s at *
            generalize ys[k] = u at *
            clear hkx hky
            by_cases q1 : s.key.toList = u.key.toList
            · by_cases q2 : s.n = u.n
              · have q3 : ¬ s.e = u.e := fun h => hst ⟨q1, q2, h⟩
                clear hst
                go_wp2
                go_quiet (fail)
                go_wp2
                go_ret
                exact ⟨by rw [HT.out]; rfl, _, by first | rfl | exact World.drewN_drewN _ _ _⟩
              · clear hst
                go_wp2
                go_quiet (fail)
                go_wp2
                go_ret
                exact ⟨by rw [HT.out]; rfl, _, by first | rfl | exact World.drewN_drewN _ _ _⟩
            · clear hst
              go_wp2
              go_quiet (fail)
              go_wp2
              go_ret
              exact ⟨by rw [HT.out]; rfl, _, by first | rfl | exact World.drewN_drewN _ _ _⟩
        · have HT : Hid (decide (xs = ys) = true) := by
            show _ = _
            rw [decide_eq_true_eq]
            have h1 := HE.out
            rw [List.take_of_length_le (by have := HN.out; omega), List.take_of_length_le (by have := HNY.out; omega)] at h1
            exact h1
          go_wp2
          go_ret
          exact ⟨by rw [HT.out]; rfl, _, by first | rfl | exact World.drewN_drewN _ _ _⟩
  · have hd : ((xs.length : Int) != (ys.length : Int)) = true := by simp; omega
    have HT : Hid (decide (xs = ys) = false) := by
      show _ = _
      rw [decide_eq_false_iff_not]
      intro e
      subst e
      exact hl rfl
    clear ha hb
    go_enter Try.func19, Try.ntmps19
    go_wp2
    go_ret
    exact ⟨by rw [HT.out]; rfl, 0, rfl⟩
end Go.Proofs.Ytogkkghliogpeaa
