/-
  The reference's Assign and New refuse members that are not valid, New other epochs.
-/
import Derived.Test.YtplkmbfeeegaiaaDoorR8
import Derived.Test.YtplkmbfeeegaiaaDoorB8
namespace Go.Proofs.YtplkmbfeeegaiaaDoor
open Go.RowKit Go.Shelf

set_option maxRecDepth 100000 in
set_option maxHeartbeats 1000000 in
theorem refAssign_bad (v : Value) (l : List Mb) (w : World) (h : Mbs w v l) (hv : ¬ VL l) : Calls Tryd.prog 16 #[v] w fun e w' => e = .returned (.tuple #[.slice none 0 0, .int .i64 120]) ∧ Keep (fun _ => False) w w' := by
  have HVA := Lib.hid (refValid_any v l w h)
  rw [validL_false hv] at HVA
  clear h hv
  go_enter Tryd.func16, Tryd.ntmps16
  go_wp2_with fail
  with_reducible refine HVA.out.mono ?_
  rintro e W1 ⟨rfl, k1⟩
  have HK1 := Lib.hid k1
  clear k1 HVA
  go_wp2_with fail
  refine bodyPost_ret (v := .tuple #[.slice none 0 0, .int .i64 120]) (by simp [results, Tryd.results16, go_sem]) rfl ?_
  exact ⟨rfl, HK1.out⟩

set_option maxRecDepth 100000 in
set_option maxHeartbeats 2000000 in
theorem refNew_epoch (ep : Int) (v : Value) (l : List Mb) (w : World) (h : Mbs w v l) (hv : VL l) (he : ¬ (1 ≤ ep ∧ ep ≤ 1000000)) : Calls Tryd.prog 18 #[.int .i64 ep, v] w (NewBad w) := by
  have HAS : Hid (∀ W, Keep (fun _ => False) w W → Calls Tryd.prog 16 #[v] W (AsgPost l W)) := Lib.hid (fun W k => refAssign_ok v l W (h.kept k) hv)
  have HEP := Lib.hid (decide_eq_false he)
  clear h hv he
  have HK0 : Hid (Keep (fun _ => False) w (w.alloc (.cells #[.int .i64 0, .slice none 0 0, .slice none 0 0] 31))) := Lib.hid ((Keep.refl _ w).alloc _)
  have HT3 := Lib.hid (three_cell w (.int .i64 0) (.slice none 0 0) (.slice none 0 0) 31)
  go_enter Tryd.func18, Tryd.ntmps18
  go_wp2_with fail
  generalize w.alloc (.cells #[.int .i64 0, .slice none 0 0, .slice none 0 0] 31) = W0 at *
  generalize hz : w.heap.size = z at HT3
  have HZ := Lib.hid hz
  clear hz
  with_reducible refine (HAS.out _ HK0.out).mono ?_
  rintro e W1 ⟨vo, rfl, how, k1⟩
  have HK1 := Lib.hid (HK0.out.trans k1)
  have f0 := k1.cell HT3.out.1 (fun h => h)
  have f1 := k1.cell HT3.out.2.1 (fun h => h)
  have f2 := k1.cell HT3.out.2.2.1 (fun h => h)
  have ff : ∀ o, W1.frozen? ⟨z, o, none⟩ = false := fun o => (k1.frozen (World.block_lt_of_cell? _ _ HT3.out.1) (fun h => h) o).trans (HT3.out.2.2.2 o)
  clear k1 how
  go_wp2_with fail
  with_reducible refine (rwithin_b ep 1 1000000 false HEP.out _).mono ?_
  rintro e w' ⟨rfl, rfl⟩
  go_wp2_with fail
  have g0 : (((W1.setCell ⟨z, 0, none⟩ (.int .i64 0)).setCell ⟨z, 1, none⟩ (.slice none 0 0)).setCell ⟨z, 2, none⟩ (.slice none 0 0)).cell? ⟨z, 0, none⟩ = some (.int .i64 0) := (cell_set_off (by decide)).trans ((cell_set_off (by decide)).trans (cell_set_same f0))
  have g1 : (((W1.setCell ⟨z, 0, none⟩ (.int .i64 0)).setCell ⟨z, 1, none⟩ (.slice none 0 0)).setCell ⟨z, 2, none⟩ (.slice none 0 0)).cell? ⟨z, 1, none⟩ = some (.slice none 0 0) := (cell_set_off (by decide)).trans (cell_set_same ((cell_set_off (by decide)).trans f1))
  have g2 : (((W1.setCell ⟨z, 0, none⟩ (.int .i64 0)).setCell ⟨z, 1, none⟩ (.slice none 0 0)).setCell ⟨z, 2, none⟩ (.slice none 0 0)).cell? ⟨z, 2, none⟩ = some (.slice none 0 0) := cell_set_same ((cell_set_off (by decide)).trans ((cell_set_off (by decide)).trans f2))
  have HKS : Hid (Keep (fun j => j = z) W1 (((W1.setCell ⟨z, 0, none⟩ (.int .i64 0)).setCell ⟨z, 1, none⟩ (.slice none 0 0)).setCell ⟨z, 2, none⟩ (.slice none 0 0))) := Lib.hid ((((Keep.refl (fun j => j = z) W1).setCell (p := ⟨z, 0, none⟩) _ (.inl rfl)).setCell (p := ⟨z, 1, none⟩) _ (.inl rfl)).setCell (p := ⟨z, 2, none⟩) _ (.inl rfl))
  generalize ((W1.setCell ⟨z, 0, none⟩ (.int .i64 0)).setCell ⟨z, 1, none⟩ (.slice none 0 0)).setCell ⟨z, 2, none⟩ (.slice none 0 0) = W3 at *
  refine bodyPost_ret (v := .tuple #[ringV 0 (.slice none 0 0) (.slice none 0 0), .int .i64 120]) (by simp [results, Tryd.results18, go_sem, g0, g1, g2]) rfl ?_
  exact ⟨rfl, HK1.out.trans' HKS.out (fun j e => .inr (by rw [e, HZ.out]; exact Nat.le_refl _))⟩

set_option maxRecDepth 100000 in
set_option maxHeartbeats 2000000 in
theorem refNew_bad (ep : Int) (v : Value) (l : List Mb) (w : World) (h : Mbs w v l) (hv : ¬ VL l) : Calls Tryd.prog 18 #[.int .i64 ep, v] w (NewBad w) := by
  have HAS : Hid (∀ W, Keep (fun _ => False) w W → Calls Tryd.prog 16 #[v] W fun e w' => e = .returned (.tuple #[.slice none 0 0, .int .i64 120]) ∧ Keep (fun _ => False) W w') := Lib.hid (fun W k => refAssign_bad v l W (h.kept k) hv)
  clear h hv
  have HK0 : Hid (Keep (fun _ => False) w (w.alloc (.cells #[.int .i64 0, .slice none 0 0, .slice none 0 0] 31))) := Lib.hid ((Keep.refl _ w).alloc _)
  have HT3 := Lib.hid (three_cell w (.int .i64 0) (.slice none 0 0) (.slice none 0 0) 31)
  go_enter Tryd.func18, Tryd.ntmps18
  go_wp2_with fail
  generalize w.alloc (.cells #[.int .i64 0, .slice none 0 0, .slice none 0 0] 31) = W0 at *
  generalize hz : w.heap.size = z at HT3
  have HZ := Lib.hid hz
  clear hz
  with_reducible refine (HAS.out _ HK0.out).mono ?_
  rintro e W1 ⟨rfl, k1⟩
  have HK1 := Lib.hid (HK0.out.trans k1)
  have f0 := k1.cell HT3.out.1 (fun h => h)
  have f1 := k1.cell HT3.out.2.1 (fun h => h)
  have f2 := k1.cell HT3.out.2.2.1 (fun h => h)
  have ff : ∀ o, W1.frozen? ⟨z, o, none⟩ = false := fun o => (k1.frozen (World.block_lt_of_cell? _ _ HT3.out.1) (fun h => h) o).trans (HT3.out.2.2.2 o)
  clear k1
  go_wp2_with fail
  have g0 : (((W1.setCell ⟨z, 0, none⟩ (.int .i64 0)).setCell ⟨z, 1, none⟩ (.slice none 0 0)).setCell ⟨z, 2, none⟩ (.slice none 0 0)).cell? ⟨z, 0, none⟩ = some (.int .i64 0) := (cell_set_off (by decide)).trans ((cell_set_off (by decide)).trans (cell_set_same f0))
  have g1 : (((W1.setCell ⟨z, 0, none⟩ (.int .i64 0)).setCell ⟨z, 1, none⟩ (.slice none 0 0)).setCell ⟨z, 2, none⟩ (.slice none 0 0)).cell? ⟨z, 1, none⟩ = some (.slice none 0 0) := (cell_set_off (by decide)).trans (cell_set_same ((cell_set_off (by decide)).trans f1))
  have g2 : (((W1.setCell ⟨z, 0, none⟩ (.int .i64 0)).setCell ⟨z, 1, none⟩ (.slice none 0 0)).setCell ⟨z, 2, none⟩ (.slice none 0 0)).cell? ⟨z, 2, none⟩ = some (.slice none 0 0) := cell_set_same ((cell_set_off (by decide)).trans ((cell_set_off (by decide)).trans f2))
  have HKS : Hid (Keep (fun j => j = z) W1 (((W1.setCell ⟨z, 0, none⟩ (.int .i64 0)).setCell ⟨z, 1, none⟩ (.slice none 0 0)).setCell ⟨z, 2, none⟩ (.slice none 0 0))) := Lib.hid ((((Keep.refl (fun j => j = z) W1).setCell (p := ⟨z, 0, none⟩) _ (.inl rfl)).setCell (p := ⟨z, 1, none⟩) _ (.inl rfl)).setCell (p := ⟨z, 2, none⟩) _ (.inl rfl))
  generalize ((W1.setCell ⟨z, 0, none⟩ (.int .i64 0)).setCell ⟨z, 1, none⟩ (.slice none 0 0)).setCell ⟨z, 2, none⟩ (.slice none 0 0) = W3 at *
  refine bodyPost_ret (v := .tuple #[ringV 0 (.slice none 0 0) (.slice none 0 0), .int .i64 120]) (by simp [results, Tryd.results18, go_sem, g0, g1, g2]) rfl ?_
  exact ⟨rfl, HK1.out.trans' HKS.out (fun j e => .inr (by rw [e, HZ.out]; exact Nat.le_refl _))⟩
end Go.Proofs.YtplkmbfeeegaiaaDoor
