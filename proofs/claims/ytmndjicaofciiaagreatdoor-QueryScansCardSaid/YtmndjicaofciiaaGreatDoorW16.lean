/-
  The fixed examples of every law.
-/
import Derived.Test.YtmndjicaofciiaaGreatDoorW15
namespace Go.Proofs.YtmndjicaofciiaaGreatDoor
open Go.RowKit Go.Shelf Go.Extern Go.Stop

theorem line_exB : bs (lineL ⟨7, 0, 3, 0, 0, 1, 2⟩) = ⟨#[106, 111, 105, 110, 32, 49, 32, 116, 111, 32, 50, 32, 111, 102, 32, 48, 32, 51, 32, 48, 32, 48]⟩ := by rw [line_ex1]
theorem print_ex (w : World) (h : Pow w) : Calls Tryz.prog 12 #[.agg #[.int .i64 7, .int .i64 0, .int .i64 3, .int .i64 0, .int .i64 0, .int .i64 1, .int .i64 2]] w fun e w' => e = .returned (.tuple #[.string ⟨#[106, 111, 105, 110, 32, 49, 32, 116, 111, 32, 50, 32, 111, 102, 32, 48, 32, 51, 32, 48, 32, 48]⟩, .int .i64 0]) ∧ Keep (fun _ => False) w w' := by
  have h1 := print_any ⟨7, 0, 3, 0, 0, 1, 2⟩ w h
  refine h1.mono fun e w' h2 => ?_
  obtain ⟨h3, h4⟩ := h2
  rw [if_pos ok_ex1, if_pos ok_ex1, line_exB] at h3
  exact ⟨h3, h4⟩
theorem print_ex0 (w : World) (h : Pow w) : Calls Tryz.prog 12 #[.agg #[.int .i64 0, .int .i64 0, .int .i64 0, .int .i64 0, .int .i64 0, .int .i64 0, .int .i64 0]] w fun e w' => e = .returned (.tuple #[.string ⟨#[]⟩, .int .i64 50]) ∧ Keep (fun _ => False) w w' := by
  have h1 := print_any ⟨0, 0, 0, 0, 0, 0, 0⟩ w h
  refine h1.mono fun e w' h2 => ?_
  obtain ⟨h3, h4⟩ := h2
  have hbad : ¬ Qy.ok ⟨0, 0, 0, 0, 0, 0, 0⟩ := q0_bad
  rw [if_neg hbad, if_neg hbad] at h3
  exact ⟨h3, h4⟩
theorem parse_exA (p : Addr) (w : World) (h : Env p w) : Calls Tryz.prog 13 #[.string ⟨#[114, 111, 119, 115, 32, 49, 32, 50, 32, 45, 49, 48, 32, 50, 48]⟩] w fun e w' => e = .returned (.tuple #[.agg #[.int .i64 2, .int .i64 1, .int .i64 2, .int .i64 (-10), .int .i64 20, .int .i64 0, .int .i64 0], .int .i64 0]) ∧ Keep (fun _ => False) w w' := by
  refine (parseQ_any p ⟨#[114, 111, 119, 115, 32, 49, 32, 50, 32, 45, 49, 48, 32, 50, 48]⟩ w (by decide) h).mono fun e w' h2 => ?_
  obtain ⟨h3, h4⟩ := h2
  rw [show parseS (⟨#[114, 111, 119, 115, 32, 49, 32, 50, 32, 45, 49, 48, 32, 50, 48]⟩ : ByteArray).data.toList = some ⟨2, 1, 2, -10, 20, 0, 0⟩ from parse_ex2] at h3
  exact ⟨h3, h4⟩
theorem parse_exB (p : Addr) (w : World) (h : Env p w) : Calls Tryz.prog 13 #[.string ⟨#[114, 111, 119, 115, 32, 49, 32, 50, 32, 50, 48, 32, 49, 48]⟩] w fun e w' => e = .returned (.tuple #[.agg #[.int .i64 0, .int .i64 0, .int .i64 0, .int .i64 0, .int .i64 0, .int .i64 0, .int .i64 0], .int .i64 50]) ∧ Keep (fun _ => False) w w' := by
  refine (parseQ_any p ⟨#[114, 111, 119, 115, 32, 49, 32, 50, 32, 50, 48, 32, 49, 48]⟩ w (by decide) h).mono fun e w' h2 => ?_
  obtain ⟨h3, h4⟩ := h2
  rw [show parseS (⟨#[114, 111, 119, 115, 32, 49, 32, 50, 32, 50, 48, 32, 49, 48]⟩ : ByteArray).data.toList = none from parse_ex3] at h3
  exact ⟨h3, h4⟩
theorem scan_ex (w : World) : Calls Tryz.prog 6 #[.agg #[.int .i64 2, .int .i64 1, .int .i64 2, .int .i64 (-10), .int .i64 20, .int .i64 0, .int .i64 0]] w fun e w' => e = .returned (.tuple #[.int .i64 1, .int .i64 2, .int .i64 (-10), .int .i64 20]) ∧ Keep (fun _ => False) w w' := by
  refine (scan_any ⟨2, 1, 2, -10, 20, 0, 0⟩ w).mono fun e w' h2 => ?_
  obtain ⟨h3, h4⟩ := h2
  unfold scanV at h3
  rw [if_pos ok_ex2] at h3
  exact ⟨h3, h4⟩
theorem valid_exJ (w : World) : Calls Tryz.prog 7 #[.agg #[.int .i64 7, .int .i64 0, .int .i64 3, .int .i64 0, .int .i64 0, .int .i64 1, .int .i64 2]] w fun e w' => e = .returned (.bool true) ∧ Keep (fun _ => False) w w' := by
  refine (valid_any ⟨7, 0, 3, 0, 0, 1, 2⟩ w).mono fun e w' h2 => ?_
  obtain ⟨h3, h4⟩ := h2
  rw [decide_eq_true ok_ex1] at h3
  exact ⟨h3, h4⟩
theorem valid_ex0 (w : World) : Calls Tryz.prog 7 #[.agg #[.int .i64 0, .int .i64 0, .int .i64 0, .int .i64 0, .int .i64 0, .int .i64 0, .int .i64 0]] w fun e w' => e = .returned (.bool false) ∧ Keep (fun _ => False) w w' := by
  refine (valid_any ⟨0, 0, 0, 0, 0, 0, 0⟩ w).mono fun e w' h2 => ?_
  obtain ⟨h3, h4⟩ := h2
  have hbad : ¬ Qy.ok ⟨0, 0, 0, 0, 0, 0, 0⟩ := q0_bad
  rw [decide_eq_false hbad] at h3
  exact ⟨h3, h4⟩
set_option maxRecDepth 100000 in
set_option maxHeartbeats 8000000 in
theorem sane05_any (p : Addr) (w : World) (hE : Env p w) : Calls Tryz.prog 4 #[] w fun e w' => e = .returned (.bool true) ∧ Keep (fun _ => False) w w' := by
  have HE := Lib.hid hE
  have ka : Keep (fun _ => False) w (w.alloc (.cells #[.int .i64 7, .int .i64 0, .int .i64 3, .int .i64 0, .int .i64 0, .int .i64 1, .int .i64 2] 24)) := (Keep.refl _ w).alloc _
  have HB1 : Hid (QBox (w.alloc (.cells #[.int .i64 7, .int .i64 0, .int .i64 3, .int .i64 0, .int .i64 0, .int .i64 1, .int .i64 2] 24)) w.heap.size ⟨7, 0, 3, 0, 0, 1, 2⟩) := Lib.hid (QBox.new w ⟨7, 0, 3, 0, 0, 1, 2⟩ 24)
  have HK1 := Lib.hid ka
  have heq : (binOp .eql 24 (.agg #[.int .i64 2, .int .i64 1, .int .i64 2, .int .i64 (-10), .int .i64 20, .int .i64 0, .int .i64 0]) (.agg #[.int .i64 2, .int .i64 1, .int .i64 2, .int .i64 (-10), .int .i64 20, .int .i64 0, .int .i64 0])).run Tryz.prog = fun w => .ok (.bool true) w := by
    funext w
    have h := eql_qy ⟨2, 1, 2, -10, 20, 0, 0⟩ ⟨2, 1, 2, -10, 20, 0, 0⟩ w
    rw [decide_eq_true rfl] at h
    exact h
  have HEQ := Lib.hid heq
  clear hE ka heq
  go_enter Tryz.func4, Tryz.ntmps4
  go_upto_region 2 with (fail)
  generalize (w.alloc (.cells #[.int .i64 7, .int .i64 0, .int .i64 3, .int .i64 0, .int .i64 0, .int .i64 1, .int .i64 2] 24)) = V1 at *
  generalize w.heap.size = z1 at *
  obtain ⟨c0, c1, c2, c3, c4, c5, c6⟩ := HB1.out.cells
  simp only at c0 c1 c2 c3 c4 c5 c6
  go_wp2_with fail
  clear c0 c1 c2 c3 c4 c5 c6
  with_reducible refine (print_ex V1 (HE.out.kept HK1.out).pow).mono ?_
  rintro e V2 ⟨rfl, k⟩
  have HB2 := Lib.hid (HB1.out.kept k)
  have HK2 := Lib.hid (HK1.out.trans k)
  clear k HB1 HK1
  go_wp2_with fail
  with_reducible refine (parse_exA p V2 (HE.out.kept HK2.out)).mono ?_
  rintro e V3 ⟨rfl, k⟩
  have HB3 := Lib.hid (HB2.out.kept k)
  have HK3 := Lib.hid (HK2.out.trans k)
  clear k HB2 HK2
  have ka : Keep (fun _ => False) V3 (V3.alloc (.cells #[.int .i64 2, .int .i64 1, .int .i64 2, .int .i64 (-10), .int .i64 20, .int .i64 0, .int .i64 0] 24)) := (Keep.refl _ V3).alloc _
  have HB4 : Hid (QBox (V3.alloc (.cells #[.int .i64 2, .int .i64 1, .int .i64 2, .int .i64 (-10), .int .i64 20, .int .i64 0, .int .i64 0] 24)) V3.heap.size ⟨2, 1, 2, -10, 20, 0, 0⟩) := Lib.hid (QBox.new V3 ⟨2, 1, 2, -10, 20, 0, 0⟩ 24)
  have HB1 := Lib.hid (HB3.out.kept ka)
  have HK4 := Lib.hid (HK3.out.trans ka)
  clear ka HB3 HK3
  go_upto_region 4 with (fail)
  generalize (V3.alloc (.cells #[.int .i64 2, .int .i64 1, .int .i64 2, .int .i64 (-10), .int .i64 20, .int .i64 0, .int .i64 0] 24)) = V4 at *
  generalize V3.heap.size = z4 at *
  go_wp2_with fail
  with_reducible refine (parse_exB p V4 (HE.out.kept HK4.out)).mono ?_
  rintro e V5 ⟨rfl, k⟩
  have HB14 := Lib.hid (HB1.out.kept k)
  have HB44 := Lib.hid (HB4.out.kept k)
  have HK5 := Lib.hid (HK4.out.trans k)
  clear k HB1 HB4 HK4
  have ka : Keep (fun _ => False) V5 (V5.alloc (.cells #[.int .i64 0, .int .i64 0, .int .i64 0, .int .i64 0, .int .i64 0, .int .i64 0, .int .i64 0] 24)) := (Keep.refl _ V5).alloc _
  have HB1 := Lib.hid (HB14.out.kept ka)
  have HB4 := Lib.hid (HB44.out.kept ka)
  have HK6 := Lib.hid (HK5.out.trans ka)
  clear ka HB14 HB44 HK5
  go_upto_region 5 with (fail)
  generalize (V5.alloc (.cells #[.int .i64 0, .int .i64 0, .int .i64 0, .int .i64 0, .int .i64 0, .int .i64 0, .int .i64 0] 24)) = V6 at *
  generalize V5.heap.size = z6 at *
  go_wp2_with fail
  with_reducible refine (print_ex0 V6 (HE.out.kept HK6.out).pow).mono ?_
  rintro e V7 ⟨rfl, k⟩
  have HB17 := Lib.hid (HB1.out.kept k)
  have HB47 := Lib.hid (HB4.out.kept k)
  have HK7 := Lib.hid (HK6.out.trans k)
  clear k HB1 HB4 HK6
  obtain ⟨c0, c1, c2, c3, c4, c5, c6⟩ := HB47.out.cells
  simp only at c0 c1 c2 c3 c4 c5 c6
  go_wp2_with fail
  clear c0 c1 c2 c3 c4 c5 c6
  with_reducible refine (scan_ex V7).mono ?_
  rintro e V8 ⟨rfl, k⟩
  have HB1 := Lib.hid (HB17.out.kept k)
  have HB4 := Lib.hid (HB47.out.kept k)
  have HK8 := Lib.hid (HK7.out.trans k)
  clear k HB17 HB47 HK7
  obtain ⟨c0, c1, c2, c3, c4, c5, c6⟩ := HB4.out.cells
  simp only at c0 c1 c2 c3 c4 c5 c6
  obtain ⟨d0, d1, d2, d3, d4, d5, d6⟩ := HB1.out.cells
  simp only at d0 d1 d2 d3 d4 d5 d6
  have heq := HEQ.out
  have hm := guardQ
  go_wp2_with fail
  clear c0 c1 c2 c3 c4 c5 c6 d0 d1 d2 d3 d4 d5 d6 heq hm
  with_reducible refine (valid_exJ V8).mono ?_
  rintro e V9 ⟨rfl, k⟩
  have HK9 := Lib.hid (HK8.out.trans k)
  clear k
  go_wp2_with fail
  with_reducible refine (valid_ex0 V9).mono ?_
  rintro e V10 ⟨rfl, k⟩
  have HK10 := Lib.hid (HK9.out.trans k)
  clear k
  go_wp2_with fail
  go_ret
  exact ⟨rfl, HK10.out⟩
end Go.Proofs.YtmndjicaofciiaaGreatDoor
