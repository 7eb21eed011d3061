/-
  Scan of package query; equality of queries.
-/
import Derived.Test.YtmndjicaofciiaaGreatDoorW14
import Derived.Laws.StructEq
namespace Go.Proofs.YtmndjicaofciiaaGreatDoor
open Go.RowKit Go.Shelf Go.Extern Go.Stop

theorem eql_qy (a b : Qy) (w : World) : (binOp .eql 24 (qV a) (qV b)).run Tryz.prog w = .ok (.bool (decide (a = b))) w := by
  have hS : Tryz.prog.underlying 24 = some (.struct (Tryz.prog.fieldsOf 24)) := by kernel_rfl
  have hp : Tryz.prog.stoodInHeld 24 = false := by kernel_rfl
  obtain ⟨a0, a1, a2, a3, a4, a5, a6⟩ := a
  obtain ⟨b0, b1, b2, b3, b4, b5, b6⟩ := b
  rw [run_eql_struct, show (10000 : Nat) = 9999 + 1 from rfl, run_equalIn_agg w 9999 24 _ _ hS hp]
  have u3 := Tryz.underlying3
  have a3 := Tryz.isAgg3
  have z3 := Tryz.sizeOf3
  simp only [Program.fieldsOf, Tryz.underlying24]
  go_simp
  (repeat' split) <;> simp [*]
theorem guardQ : Tryz.prog.eqGuardType Tryz.prog.depth 24 = false := by kernel_rfl
def scanV (q : Qy) : Value := if q.ok then .tuple #[.int .i64 q.tb, .int .i64 q.cl, .int .i64 q.lo, .int .i64 q.hi] else .tuple #[.int .i64 0, .int .i64 0, .int .i64 0, .int .i64 0]
set_option maxRecDepth 100000 in
set_option maxHeartbeats 4000000 in
theorem scan_any (q : Qy) (w : World) : Calls Tryz.prog 6 #[qV q] w fun e w' => e = .returned (scanV q) ∧ Keep (fun _ => False) w w' := by
  unfold scanV
  have HVA : Hid (∀ W, Calls Tryz.prog 7 #[qV q] W fun e w' => e = .returned (.bool (decide q.ok)) ∧ Keep (fun _ => False) W w') := Lib.hid (valid_any q)
  have K0 : Hid (Keep (fun _ => False) w (w.alloc (.cells #[.int .i64 q.kd, .int .i64 q.tb, .int .i64 q.cl, .int .i64 q.lo, .int .i64 q.hi, .int .i64 q.bb, .int .i64 q.ot] 24))) := Lib.hid ((Keep.refl _ w).alloc _)
  have HQ0 := Lib.hid (QBox.new w q 24)
  by_cases hok : q.ok
  · rw [if_pos hok]
    rw [decide_eq_true hok] at HVA
    clear hok
    go_enter Tryz.func6, Tryz.ntmps6
    go_wp2_with fail
    with_reducible refine (HVA.out _).mono ?_
    rintro e W1 ⟨rfl, k1⟩
    have HK1 := Lib.hid (K0.out.trans k1)
    have HQ1 := Lib.hid (HQ0.out.kept k1)
    generalize w.heap.size = z at *
    clear k1 K0 HQ0
    go_upto_region 3 with (fail)
    have r1 : ∀ p : KA (fun _ => False) W1, p.val.cell? ⟨z, 1, none⟩ = some (.int .i64 q.tb) := fun p => (HQ1.out.kept p.k).1 1 (by decide)
    have r2 : ∀ p : KA (fun _ => False) W1, p.val.cell? ⟨z, 2, none⟩ = some (.int .i64 q.cl) := fun p => (HQ1.out.kept p.k).1 2 (by decide)
    have r3 : ∀ p : KA (fun _ => False) W1, p.val.cell? ⟨z, 3, none⟩ = some (.int .i64 q.lo) := fun p => (HQ1.out.kept p.k).1 3 (by decide)
    have r4 : ∀ p : KA (fun _ => False) W1, p.val.cell? ⟨z, 4, none⟩ = some (.int .i64 q.hi) := fun p => (HQ1.out.kept p.k).1 4 (by decide)
    have HKD : Hid (Keep (fun _ => False) W1 W1.drew) := Lib.hid (Keep.refl _ W1).drew
    refine wp_region_walk [(true, 0), (true, 1), (true, 2), (true, 3), (true, 4), (true, 5), (true, 6), (true, 7), (false, 8), (false, 9), (false, 10), (false, 11)] (inKA (fun _ => False) W1) (by kernel_rfl) (by kernel_rfl) ?_
    iterate 8 (refine walkW_read rfl (fun K hK => ?_); go_simp; refine hK _ ?_; clear hK K)
    iterate 4 (refine walkW_do rfl (inKA.of HKD.out) (fun K hK => ?_); go_simp; refine hK _ _ ?_; clear hK K)
    refine ⟨inKA.of HKD.out, ?_⟩
    have HKE := Lib.hid (HK1.out.trans HKD.out)
    go_wp2_with fail
    refine bodyPost_ret (v := .tuple #[.int .i64 q.tb, .int .i64 q.cl, .int .i64 q.lo, .int .i64 q.hi]) (by simp [results, Tryz.results6, go_sem]) rfl ?_
    exact ⟨rfl, HKE.out⟩
  · rw [if_neg hok]
    rw [decide_eq_false hok] at HVA
    clear hok
    go_enter Tryz.func6, Tryz.ntmps6
    go_wp2_with fail
    with_reducible refine (HVA.out _).mono ?_
    rintro e W1 ⟨rfl, k1⟩
    have HK1 := Lib.hid (K0.out.trans k1)
    clear k1
    go_wp2_with fail
    refine bodyPost_ret (v := .tuple #[.int .i64 0, .int .i64 0, .int .i64 0, .int .i64 0]) (by simp [results, Tryz.results6, go_sem]) rfl ?_
    exact ⟨rfl, HK1.out⟩
end Go.Proofs.YtmndjicaofciiaaGreatDoor
