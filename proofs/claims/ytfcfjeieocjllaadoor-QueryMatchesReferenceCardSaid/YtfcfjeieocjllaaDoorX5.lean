/-
  QueryMatchesReference: the walk.
-/
import Derived.Test.YtfcfjeieocjllaaDoorZ4
import Derived.Test.YtfcfjeieocjllaaDoorW16
namespace Go.Proofs.YtfcfjeieocjllaaDoor
open Go.RowKit Go.Shelf Go.Extern Go.Stop

set_option maxRecDepth 100000 in
set_option maxHeartbeats 8000000 in
theorem matches_walk (p : Addr) (q : Qy) (w : World) (sl : ByteArray) (el t1 t2 t3 t4 : Int) (ok : Bool) (hE : Env p w)
    (hp : ∀ W, Pow W → Calls Tryd.prog 10 #[qV q] W fun e w' => e = .returned (.tuple #[.string sl, .int .i64 el]) ∧ Keep (fun _ => False) W w')
    (hr : ∀ W, Calls Tryd.prog 11 #[qV q] W fun e w' => e = .returned (.tuple #[.string sl, .int .i64 el]) ∧ Keep (fun _ => False) W w')
    (hs : ∀ W, Calls Tryd.prog 12 #[qV q] W fun e w' => e = .returned (.tuple #[.int .i64 t1, .int .i64 t2, .int .i64 t3, .int .i64 t4]) ∧ Keep (fun _ => False) W w')
    (ht : ∀ W, Calls Tryd.prog 13 #[qV q] W fun e w' => e = .returned (.tuple #[.int .i64 t1, .int .i64 t2, .int .i64 t3, .int .i64 t4]) ∧ Keep (fun _ => False) W w')
    (hv : ∀ W, Calls Tryd.prog 14 #[qV q] W fun e w' => e = .returned (.bool ok) ∧ Keep (fun _ => False) W w')
    (hu : ∀ W, Calls Tryd.prog 15 #[qV q] W fun e w' => e = .returned (.bool ok) ∧ Keep (fun _ => False) W w') :
    Calls Tryd.prog 3 #[qV q] w fun e w' => e = .returned (.bool true) ∧ Keep (fun _ => False) w w' := by
  have HE := Lib.hid hE
  have HP := Lib.hid hp
  have HR := Lib.hid hr
  have HS := Lib.hid hs
  have HT := Lib.hid ht
  have HV := Lib.hid hv
  have HU := Lib.hid hu
  have ka : Keep (fun _ => False) w (w.alloc (.cells #[.int .i64 q.kd, .int .i64 q.tb, .int .i64 q.cl, .int .i64 q.lo, .int .i64 q.hi, .int .i64 q.bb, .int .i64 q.ot] 23)) := (Keep.refl _ w).alloc _
  have HB1 := Lib.hid (QBox.new w q 23)
  have HK1 := Lib.hid ka
  clear hE hp hr hs ht hv hu ka
  go_enter Tryd.func3, Tryd.ntmps3
  go_upto_region 1 with (fail)
  generalize w.alloc (.cells #[.int .i64 q.kd, .int .i64 q.tb, .int .i64 q.cl, .int .i64 q.lo, .int .i64 q.hi, .int .i64 q.bb, .int .i64 q.ot] 23) = V1 at *
  generalize w.heap.size = z1 at *
  go_wp2_with fail
  with_reducible refine (sane05_any p V1 (HE.out.kept HK1.out)).mono ?_
  rintro e V2 ⟨rfl, k⟩
  have HB2 := Lib.hid (HB1.out.kept k)
  have HK2 := Lib.hid (HK1.out.trans k)
  clear k HB1 HK1
  obtain ⟨c0, c1, c2, c3, c4, c5, c6⟩ := HB2.out.cells
  go_wp2_with fail
  clear c0 c1 c2 c3 c4 c5 c6
  with_reducible refine (HP.out V2 (HE.out.kept HK2.out).pow).mono ?_
  rintro e V3 ⟨rfl, k⟩
  have HB3 := Lib.hid (HB2.out.kept k)
  have HK3 := Lib.hid (HK2.out.trans k)
  clear k HB2 HK2
  obtain ⟨c0, c1, c2, c3, c4, c5, c6⟩ := HB3.out.cells
  go_wp2_with fail
  clear c0 c1 c2 c3 c4 c5 c6
  with_reducible refine (HR.out V3).mono ?_
  rintro e V4 ⟨rfl, k⟩
  have HB4 := Lib.hid (HB3.out.kept k)
  have HK4 := Lib.hid (HK3.out.trans k)
  clear k HB3 HK3
  obtain ⟨c0, c1, c2, c3, c4, c5, c6⟩ := HB4.out.cells
  go_wp2_with fail
  clear c0 c1 c2 c3 c4 c5 c6
  with_reducible refine (HS.out V4).mono ?_
  rintro e V5 ⟨rfl, k⟩
  have HB5 := Lib.hid (HB4.out.kept k)
  have HK5 := Lib.hid (HK4.out.trans k)
  clear k HB4 HK4
  obtain ⟨c0, c1, c2, c3, c4, c5, c6⟩ := HB5.out.cells
  go_wp2_with fail
  clear c0 c1 c2 c3 c4 c5 c6
  with_reducible refine (HT.out V5).mono ?_
  rintro e V6 ⟨rfl, k⟩
  have HB6 := Lib.hid (HB5.out.kept k)
  have HK6 := Lib.hid (HK5.out.trans k)
  clear k HB5 HK5
  go_upto_region 6 with (fail)
  have r0 : ∀ p : KW V6, p.val.cell? ⟨z1, 0, none⟩ = some (.int .i64 q.kd) := fun p => (HB6.out.kept p.k).1 0 (by decide)
  have r1 : ∀ p : KW V6, p.val.cell? ⟨z1, 1, none⟩ = some (.int .i64 q.tb) := fun p => (HB6.out.kept p.k).1 1 (by decide)
  have r2 : ∀ p : KW V6, p.val.cell? ⟨z1, 2, none⟩ = some (.int .i64 q.cl) := fun p => (HB6.out.kept p.k).1 2 (by decide)
  have r3 : ∀ p : KW V6, p.val.cell? ⟨z1, 3, none⟩ = some (.int .i64 q.lo) := fun p => (HB6.out.kept p.k).1 3 (by decide)
  have r4 : ∀ p : KW V6, p.val.cell? ⟨z1, 4, none⟩ = some (.int .i64 q.hi) := fun p => (HB6.out.kept p.k).1 4 (by decide)
  have r5 : ∀ p : KW V6, p.val.cell? ⟨z1, 5, none⟩ = some (.int .i64 q.bb) := fun p => (HB6.out.kept p.k).1 5 (by decide)
  have r6 : ∀ p : KW V6, p.val.cell? ⟨z1, 6, none⟩ = some (.int .i64 q.ot) := fun p => (HB6.out.kept p.k).1 6 (by decide)
  refine wp_region_quiet_kept (by kernel_rfl) (by kernel_rfl) ?_
  repeat (quiet_step (first | (go_at_call 14; exact Calls.kept_of (HV.out _)) | (go_at_call 15; exact Calls.kept_of (HU.out _))))
  refine wpQuiet_nil ?_
  rintro _ ⟨p, rfl⟩
  have HKF := Lib.hid (HK6.out.trans p.k)
  generalize p.val = VF at *
  go_wp2_with fail
  go_ret
  exact ⟨rfl, HKF.out⟩
theorem matches_law (p : Addr) (q : Qy) (w : World) (hE : Env p w) : Calls Tryd.prog 3 #[qV q] w fun e w' => e = .returned (.bool true) ∧ Keep (fun _ => False) w w' := by
  have hsc : ∃ t1 t2 t3 t4 : Int, scanV q = .tuple #[.int .i64 t1, .int .i64 t2, .int .i64 t3, .int .i64 t4] := by
    unfold scanV
    split
    · exact ⟨_, _, _, _, rfl⟩
    · exact ⟨_, _, _, _, rfl⟩
  obtain ⟨t1, t2, t3, t4, e⟩ := hsc
  refine matches_walk p q w _ _ t1 t2 t3 t4 _ hE (print_any q) (print_ref q) (fun W => ?_) (fun W => ?_) (valid_any q) (refValid_any q)
  · have h := scan_any q W
    rwa [e] at h
  · have h := scan_ref q W
    rwa [e] at h
end Go.Proofs.YtfcfjeieocjllaaDoor
