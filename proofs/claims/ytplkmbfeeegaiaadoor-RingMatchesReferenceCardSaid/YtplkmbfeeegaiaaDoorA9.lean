/-
  BinarySearchFunc on a circle.
-/
import Derived.Test.YtplkmbfeeegaiaaDoorA8
namespace Go.Proofs.YtplkmbfeeegaiaaDoor
open Go.RowKit Go.Shelf

set_option maxRecDepth 100000 in
set_option maxHeartbeats 1000000 in
theorem cmpPoint_any (x : Mk) (p : Int) (W : World) : Calls Tryd.prog 74 #[mkV x, .int .i64 p] W fun e w' => e = .returned (.int .i64 (cmpI x.point p)) ∧ Keep (fun _ => False) W w' := by
  obtain ⟨x0, x1, x2⟩ := x
  have HK : Hid (Keep (fun _ => False) W (W.alloc (.cells #[.int .i64 x0, .int .i64 x1, .int .i64 x2] 96))) := Lib.hid ((Keep.refl _ W).alloc _)
  go_enter Tryd.func74, Tryd.ntmps74
  go_wp2_with fail
  with_reducible refine (cmp_int x0 p _).mono ?_
  rintro e w' ⟨rfl, rfl⟩
  go_wp2_with fail
  go_ret
  exact ⟨rfl, HK.out⟩

theorem cmpI_neg (a b : Int) : cmpI a b < 0 ↔ a < b := by
  unfold cmpI
  split
  · simp [*]
  · split <;> simp [*]

set_option maxRecDepth 100000 in
set_option maxHeartbeats 4000000 in
theorem bsearch_any (v : Value) (c : List Mk) (p : Int) (w : World) (h : Mks w v c) (hs : c.Pairwise ltMk) :
    Calls Tryd.prog 73 #[v, .int .i64 p, .func (.func 74) #[] #[]] w fun e w' => (∃ b, e = .returned (.tuple #[.int .i64 (lows c p : Nat), .bool b])) ∧ Keep (fun _ => False) w w' := by
  obtain ⟨hn, a, cc, b, off, rfl, hc, ha, hcell⟩ := h
  have HC := Lib.hid hcell
  have HA := Lib.hid ha
  have HS := Lib.hid hs
  have hlo := lows_le c p
  clear hcell ha hs
  obtain ⟨n, hn'⟩ : ∃ n, c.length = n := ⟨_, rfl⟩
  have HL := Lib.hid hn'
  rw [hn'] at hn hc hlo ⊢
  clear hn'
  obtain ⟨lo, hlo'⟩ : ∃ lo, lows c p = lo := ⟨_, rfl⟩
  have HLO := Lib.hid hlo'
  rw [hlo'] at hlo
  clear hlo'
  go_enter Tryd.func73, Tryd.ntmps73
  go_wp2_with fail
  go_loopg [9, 10] n (fun gh v9 v10 wr => ∃ (i j : Nat), v9 = .int .i64 i ∧ v10 = .int .i64 j ∧ i ≤ lo ∧ lo ≤ j ∧ j ≤ n ∧ j - i ≤ gh ∧ Keep (fun _ => False) w wr)
  case atStart => exact ⟨0, n, rfl, rfl, by omega, hlo, by omega, by omega, Keep.refl _ _⟩
  case round =>
    obtain ⟨i, j, rfl, rfl, hi, hj, hjn, hg, hkeep⟩ := hrel
    have HK := Lib.hid hkeep
    clear hkeep
    by_cases hij : i < j
    · obtain ⟨q, hq⟩ : ∃ q : Nat, (i + j) / 2 = q := ⟨_, rfl⟩
      have hq1 : i ≤ q := by omega
      have hq2 : q < j := by omega
      obtain ⟨x, hx⟩ : ∃ x, c[q]? = some x := ⟨_, List.getElem?_eq_getElem (by have := HL.out; omega)⟩
      obtain rfl := HA.out (by have := HL.out; omega)
      have c0 := HK.out.cell (HC.out q x hx).1 (fun h => h)
      have c1 := HK.out.cell (HC.out q x hx).2.1 (fun h => h)
      have c2 := HK.out.cell (HC.out q x hx).2.2 (fun h => h)
      have HB : Hid (x.point < p ↔ q < lo) := Lib.hid (by rw [← HLO.out]; exact lows_below HS.out p hx)
      clear hx
      have hijz : (i : Int) < (j : Int) := by omega
      have e1 : ((i : Int) + (j : Int)) / 2 = (q : Int) := by omega
      obtain ⟨x0, x1, x2⟩ := x
      simp only [] at c0 c1 c2 HB
      go_wp2_with fail
      clear c0 c1 c2
      with_reducible refine (cmpPoint_any ⟨x0, x1, x2⟩ p _).mono ?_
      rintro e W2 ⟨rfl, k2⟩
      have HK2 := Lib.hid (HK.out.trans k2)
      have HN := Lib.hid (cmpI_neg x0 p)
      clear k2
      simp only []
      generalize cmpI x0 p = z at *
      by_cases hz : z < 0
      · have hql := HB.out.1 (HN.out.1 hz)
        go_wp2_with fail
        go_roundg (j - (q + 1))
        case rel => exact ⟨q + 1, j, by go_num, rfl, by omega, by omega, by omega, by omega, HK2.out⟩
        case measure => omega
      · have hql : ¬ q < lo := fun h => hz (HN.out.2 (HB.out.2 h))
        go_wp2_with fail
        go_roundg (q - i)
        case rel => exact ⟨i, q, rfl, rfl, by omega, by omega, by omega, by omega, HK2.out⟩
        case measure => omega
    · obtain rfl : i = j := by omega
      obtain rfl : i = lo := by omega
      by_cases hin : i < n
      · obtain ⟨x, hx⟩ : ∃ x, c[i]? = some x := ⟨_, List.getElem?_eq_getElem (by have := HL.out; omega)⟩
        obtain rfl := HA.out (by have := HL.out; omega)
        have c0 := HK.out.cell (HC.out i x hx).1 (fun h => h)
        have c1 := HK.out.cell (HC.out i x hx).2.1 (fun h => h)
        have c2 := HK.out.cell (HC.out i x hx).2.2 (fun h => h)
        clear hx
        have hinz : (i : Int) < (n : Int) := by omega
        have hi0 : (0 : Int) ≤ (i : Int) := by omega
        obtain ⟨x0, x1, x2⟩ := x
        simp only [] at c0 c1 c2
        go_wp2_with fail
        with_reducible refine (cmpPoint_any ⟨x0, x1, x2⟩ p _).mono ?_
        rintro e W2 ⟨rfl, k2⟩
        have HK2 := Lib.hid (HK.out.trans k2)
        clear k2 c0 c1 c2
        simp only []
        generalize cmpI x0 p = z at *
        go_wp2_with fail
        refine bodyPost_ret (v := .tuple #[.int .i64 i, .bool (z == 0)]) (by simp [results, Tryd.results73, go_sem]) rfl ?_
        exact ⟨⟨_, by rw [HLO.out]⟩, HK2.out⟩
      · have hinz : ¬ (i : Int) < (n : Int) := by omega
        go_wp2_with fail
        refine bodyPost_ret (v := .tuple #[.int .i64 i, .bool false]) (by simp [results, Tryd.results73, go_sem]) rfl ?_
        exact ⟨.inl (by rw [HLO.out]), HK.out⟩
end Go.Proofs.YtplkmbfeeegaiaaDoor
