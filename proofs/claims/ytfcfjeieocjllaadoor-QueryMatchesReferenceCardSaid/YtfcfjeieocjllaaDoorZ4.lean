/-
  The reference's Print and Scan.
-/
import Derived.Test.YtfcfjeieocjllaaDoorZ2
import Derived.Test.YtfcfjeieocjllaaDoorW15
namespace Go.Proofs.YtfcfjeieocjllaaDoor
open Go.RowKit Go.Shelf

set_option maxRecDepth 100000 in
set_option maxHeartbeats 4000000 in
theorem print_ref (q : Qy) (w : World) : Calls Tryd.prog 11 #[qV q] w fun e w' => e = .returned (.tuple #[.string (bs (if q.ok then lineL q else [])), .int .i64 (if q.ok then 0 else 50)]) ∧ Keep (fun _ => False) w w' := by
  have HVA : Hid (∀ W, Calls Tryd.prog 15 #[qV q] W fun e w' => e = .returned (.bool (decide q.ok)) ∧ Keep (fun _ => False) W w') := Lib.hid (refValid_any q)
  have K0 : Hid (Keep (fun _ => False) w (w.alloc (.cells #[.int .i64 q.kd, .int .i64 q.tb, .int .i64 q.cl, .int .i64 q.lo, .int .i64 q.hi, .int .i64 q.bb, .int .i64 q.ot] 23))) := Lib.hid ((Keep.refl _ w).alloc _)
  have HQ0 := Lib.hid (QBox.new w q 23)
  by_cases hok : q.ok
  · rw [if_pos hok, if_pos hok]
    rw [decide_eq_true hok] at HVA
    have HLI : Hid (∀ W, Calls Tryd.prog 24 #[qV q] W fun e w' => e = .returned (.string (bs (lineL q))) ∧ Keep (fun _ => False) W w') := Lib.hid (line_ref q hok)
    generalize bs (lineL q) = sl at *
    clear hok
    go_enter Tryd.func11, Tryd.ntmps11
    go_upto_region 1 with (fail)
    generalize (w.alloc (.cells #[.int .i64 q.kd, .int .i64 q.tb, .int .i64 q.cl, .int .i64 q.lo, .int .i64 q.hi, .int .i64 q.bb, .int .i64 q.ot] 23)) = W0 at *
    generalize w.heap.size = z at *
    obtain ⟨c0, c1, c2, c3, c4, c5, c6⟩ := HQ0.out.cells
    go_wp2_with fail
    clear c0 c1 c2 c3 c4 c5 c6
    with_reducible refine (HVA.out _).mono ?_
    rintro e W1 ⟨rfl, k1⟩
    have HK1 := Lib.hid (K0.out.trans k1)
    have HQ1 := Lib.hid (HQ0.out.kept k1)
    clear k1 K0 HQ0
    obtain ⟨c0, c1, c2, c3, c4, c5, c6⟩ := HQ1.out.cells
    go_wp2_with fail
    clear c0 c1 c2 c3 c4 c5 c6
    with_reducible refine (HLI.out _).mono ?_
    rintro e W2 ⟨rfl, k1⟩
    have HK2 := Lib.hid (HK1.out.trans k1)
    clear k1
    go_wp2_with fail
    refine bodyPost_ret (v := .tuple #[.string sl, .int .i64 0]) (by simp [results, Tryd.results11, go_sem]) rfl ?_
    exact ⟨rfl, HK2.out⟩
  · rw [if_neg hok, if_neg hok]
    rw [decide_eq_false hok] at HVA
    clear hok
    go_enter Tryd.func11, Tryd.ntmps11
    go_upto_region 1 with (fail)
    generalize (w.alloc (.cells #[.int .i64 q.kd, .int .i64 q.tb, .int .i64 q.cl, .int .i64 q.lo, .int .i64 q.hi, .int .i64 q.bb, .int .i64 q.ot] 23)) = W0 at *
    generalize w.heap.size = z at *
    obtain ⟨c0, c1, c2, c3, c4, c5, c6⟩ := HQ0.out.cells
    go_wp2_with fail
    clear c0 c1 c2 c3 c4 c5 c6
    with_reducible refine (HVA.out _).mono ?_
    rintro e W1 ⟨rfl, k1⟩
    have HK1 := Lib.hid (K0.out.trans k1)
    have HQ1 := Lib.hid (HQ0.out.kept k1)
    clear k1 K0 HQ0
    go_wp2_with fail
    refine bodyPost_ret (v := .tuple #[.string ⟨#[]⟩, .int .i64 50]) (by simp [results, Tryd.results11, go_sem]) rfl ?_
    exact ⟨rfl, HK1.out⟩
set_option maxRecDepth 100000 in
set_option maxHeartbeats 4000000 in
theorem scan_ref (q : Qy) (w : World) : Calls Tryd.prog 13 #[qV q] w fun e w' => e = .returned (scanV q) ∧ Keep (fun _ => False) w w' := by
  unfold scanV
  have HVA : Hid (∀ W, Calls Tryd.prog 15 #[qV q] W fun e w' => e = .returned (.bool (decide q.ok)) ∧ Keep (fun _ => False) W w') := Lib.hid (refValid_any q)
  have K0 : Hid (Keep (fun _ => False) w (w.alloc (.cells #[.int .i64 q.kd, .int .i64 q.tb, .int .i64 q.cl, .int .i64 q.lo, .int .i64 q.hi, .int .i64 q.bb, .int .i64 q.ot] 23))) := Lib.hid ((Keep.refl _ w).alloc _)
  have HQ0 := Lib.hid (QBox.new w q 23)
  by_cases hok : q.ok
  · rw [if_pos hok]
    rw [decide_eq_true hok] at HVA
    clear hok
    go_enter Tryd.func13, Tryd.ntmps13
    go_upto_region 1 with (fail)
    generalize (w.alloc (.cells #[.int .i64 q.kd, .int .i64 q.tb, .int .i64 q.cl, .int .i64 q.lo, .int .i64 q.hi, .int .i64 q.bb, .int .i64 q.ot] 23)) = W0 at *
    generalize w.heap.size = z at *
    obtain ⟨c0, c1, c2, c3, c4, c5, c6⟩ := HQ0.out.cells
    go_wp2_with fail
    clear c0 c1 c2 c3 c4 c5 c6
    with_reducible refine (HVA.out _).mono ?_
    rintro e W1 ⟨rfl, k1⟩
    have HK1 := Lib.hid (K0.out.trans k1)
    have HQ1 := Lib.hid (HQ0.out.kept k1)
    clear k1 K0 HQ0
    go_upto_region 4 with (fail)
    have r1 : ∀ p : KA (fun _ => False) W1, p.val.cell? ⟨z, 1, none⟩ = some (.int .i64 q.tb) := fun p => (HQ1.out.kept p.k).1 1 (by decide)
    have r2 : ∀ p : KA (fun _ => False) W1, p.val.cell? ⟨z, 2, none⟩ = some (.int .i64 q.cl) := fun p => (HQ1.out.kept p.k).1 2 (by decide)
    have r3 : ∀ p : KA (fun _ => False) W1, p.val.cell? ⟨z, 3, none⟩ = some (.int .i64 q.lo) := fun p => (HQ1.out.kept p.k).1 3 (by decide)
    have r4 : ∀ p : KA (fun _ => False) W1, p.val.cell? ⟨z, 4, none⟩ = some (.int .i64 q.hi) := fun p => (HQ1.out.kept p.k).1 4 (by decide)
    have HKD : Hid (Keep (fun _ => False) W1 W1.drew) := Lib.hid (Keep.refl _ W1).drew
    refine wp_region_walk [(true, 0), (true, 1), (true, 2), (true, 3), (true, 4), (true, 5), (true, 6), (true, 7), (false, 8), (false, 9), (false, 10), (false, 11)] (inKA (fun _ => False) W1) (by kernel_rfl) (by kernel_rfl) ?_
    iterate 8 (refine walkW_read rfl (fun K hK => ?_); go_simp; refine hK _ ?_; clear hK K)
    iterate 4 (refine walkW_do rfl (inKA.of HKD.out) (fun K hK => ?_); go_simp; refine hK _ _ ?_; clear hK K)
    refine ⟨inKA.of HKD.out, ?_⟩
    have HKE := Lib.hid (HK1.out.trans HKD.out)
    go_wp2_with fail
    refine bodyPost_ret (v := .tuple #[.int .i64 q.tb, .int .i64 q.cl, .int .i64 q.lo, .int .i64 q.hi]) (by simp [results, Tryd.results13, go_sem]) rfl ?_
    exact ⟨rfl, HKE.out⟩
  · rw [if_neg hok]
    rw [decide_eq_false hok] at HVA
    clear hok
    go_enter Tryd.func13, Tryd.ntmps13
    go_upto_region 1 with (fail)
    generalize (w.alloc (.cells #[.int .i64 q.kd, .int .i64 q.tb, .int .i64 q.cl, .int .i64 q.lo, .int .i64 q.hi, .int .i64 q.bb, .int .i64 q.ot] 23)) = W0 at *
    generalize w.heap.size = z at *
    obtain ⟨c0, c1, c2, c3, c4, c5, c6⟩ := HQ0.out.cells
    go_wp2_with fail
    clear c0 c1 c2 c3 c4 c5 c6
    with_reducible refine (HVA.out _).mono ?_
    rintro e W1 ⟨rfl, k1⟩
    have HK1 := Lib.hid (K0.out.trans k1)
    have HQ1 := Lib.hid (HQ0.out.kept k1)
    clear k1 K0 HQ0
    go_wp2_with fail
    refine bodyPost_ret (v := .tuple #[.int .i64 0, .int .i64 0, .int .i64 0, .int .i64 0]) (by simp [results, Tryd.results13, go_sem]) rfl ?_
    exact ⟨rfl, HK1.out⟩
end Go.Proofs.YtfcfjeieocjllaaDoor
