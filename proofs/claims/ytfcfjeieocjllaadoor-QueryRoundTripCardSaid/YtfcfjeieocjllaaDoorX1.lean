/-
  QueryRoundTrip: the walk.
-/
import Derived.Test.YtfcfjeieocjllaaDoorW16
namespace Go.Proofs.YtfcfjeieocjllaaDoor
open Go.RowKit Go.Shelf Go.Extern Go.Stop

set_option maxRecDepth 100000 in
set_option maxHeartbeats 8000000 in
theorem roundTrip_law (p : Addr) (q : Qy) (w : World) (hE : Env p w) : Calls Tryd.prog 5 #[qV q] w fun e w' => e = .returned (.bool true) ∧ Keep (fun _ => False) w w' := by
  have HE := Lib.hid hE
  have ka : Keep (fun _ => False) w (w.alloc (.cells #[.int .i64 q.kd, .int .i64 q.tb, .int .i64 q.cl, .int .i64 q.lo, .int .i64 q.hi, .int .i64 q.bb, .int .i64 q.ot] 23)) := (Keep.refl _ w).alloc _
  have HB1 := Lib.hid (QBox.new w q 23)
  have HK1 := Lib.hid ka
  have HPR : Hid (∀ W, Pow W → Calls Tryd.prog 10 #[qV q] W (PrintPost q W)) := Lib.hid (print_any q)
  have HVA : Hid (∀ W, Calls Tryd.prog 14 #[qV q] W fun e w' => e = .returned (.bool (decide q.ok)) ∧ Keep (fun _ => False) W w') := Lib.hid (valid_any q)
  unfold PrintPost at HPR
  clear hE ka
  go_enter Tryd.func5, Tryd.ntmps5
  go_upto_region 1 with (fail)
  generalize w.alloc (.cells #[.int .i64 q.kd, .int .i64 q.tb, .int .i64 q.cl, .int .i64 q.lo, .int .i64 q.hi, .int .i64 q.bb, .int .i64 q.ot] 23) = V1 at *
  generalize w.heap.size = z1 at *
  go_wp2_with fail
  with_reducible refine (sane05_any p V1 (HE.out.kept HK1.out)).mono ?_
  rintro e V2 ⟨rfl, k⟩
  have HB2 := Lib.hid (HB1.out.kept k)
  have HK2 := Lib.hid (HK1.out.trans k)
  clear k HB1 HK1
  obtain ⟨c0, c1, c2, c3, c4, c5, c6⟩ := HB2.out.cells
  go_wp2_with fail
  clear c0 c1 c2 c3 c4 c5 c6
  with_reducible refine (HPR.out V2 (HE.out.kept HK2.out).pow).mono ?_
  rintro e V3 ⟨rfl, k⟩
  have HB3 := Lib.hid (HB2.out.kept k)
  have HK3 := Lib.hid (HK2.out.trans k)
  clear k HB2 HK2
  obtain ⟨c0, c1, c2, c3, c4, c5, c6⟩ := HB3.out.cells
  by_cases hok : q.ok
  · rw [if_pos hok, if_pos hok]
    rw [decide_eq_true hok] at HVA
    have HPA : Hid (∀ W, Env p W → Calls Tryd.prog 16 #[.string (bs (lineL q))] W fun e w' => e = .returned (.tuple #[qV q, .int .i64 0]) ∧ Keep (fun _ => False) W w') := Lib.hid (fun W h => by
      have hlen := line_len hok
      refine (parseQ_any p (bs (lineL q)) W (by rw [bs_size]; omega) h).mono fun e w' h2 => ?_
      obtain ⟨h3, h4⟩ := h2
      rw [bs_list, (parseS_iff _ q).2 ⟨hok, rfl⟩] at h3
      exact ⟨h3, h4⟩)
    have HEQ := Lib.hid (fun w => eql_qy q q w)
    rw [decide_eq_true (rfl : q = q)] at HEQ
    clear hok
    generalize bs (lineL q) = sl at *
    go_wp2_with fail
    clear c0 c1 c2 c3 c4 c5 c6
    with_reducible refine (HVA.out V3).mono ?_
    rintro e V4 ⟨rfl, k⟩
    have HB4 := Lib.hid (HB3.out.kept k)
    have HK4 := Lib.hid (HK3.out.trans k)
    clear k HB3 HK3
    go_wp2_with fail
    with_reducible refine (HPA.out V4 (HE.out.kept HK4.out)).mono ?_
    rintro e V5 ⟨rfl, k⟩
    have HB5 := Lib.hid (HB4.out.kept k)
    have HK5 := Lib.hid (HK4.out.trans k)
    clear k HB4 HK4
    have ka : Keep (fun _ => False) V5 (V5.alloc (.cells #[.int .i64 q.kd, .int .i64 q.tb, .int .i64 q.cl, .int .i64 q.lo, .int .i64 q.hi, .int .i64 q.bb, .int .i64 q.ot] 23)) := (Keep.refl _ V5).alloc _
    have HB6 := Lib.hid (QBox.new V5 q 23)
    have HB1 := Lib.hid (HB5.out.kept ka)
    have HK6 := Lib.hid (HK5.out.trans ka)
    clear ka HB5 HK5
    go_upto_region 6 with (fail)
    generalize V5.alloc (.cells #[.int .i64 q.kd, .int .i64 q.tb, .int .i64 q.cl, .int .i64 q.lo, .int .i64 q.hi, .int .i64 q.bb, .int .i64 q.ot] 23) = V6 at *
    generalize V5.heap.size = z6 at *
    obtain ⟨c0, c1, c2, c3, c4, c5, c6⟩ := HB6.out.cells
    obtain ⟨d0, d1, d2, d3, d4, d5, d6⟩ := HB1.out.cells
    have heq := HEQ.out
    have hm := guardQ
    go_wp2_with fail
    go_ret
    exact ⟨rfl, HK6.out⟩
  · rw [if_neg hok, if_neg hok]
    rw [decide_eq_false hok] at HVA
    clear hok
    go_wp2_with fail
    clear c0 c1 c2 c3 c4 c5 c6
    with_reducible refine (HVA.out V3).mono ?_
    rintro e V4 ⟨rfl, k⟩
    have HK4 := Lib.hid (HK3.out.trans k)
    clear k HB3 HK3
    go_wp2_with fail
    go_ret
    exact ⟨rfl, HK4.out⟩
end Go.Proofs.YtfcfjeieocjllaaDoor
