/-
  Several texts in one, each under its own heading below (merged by a program of ours): the contracts of the functions that the law reaches, part 6 of 7.
-/
import Derived.Test.YtplkmbfeeegaiaaGreatDoorX1
import Derived.Test.YtplkmbfeeegaiaaGreatDoorX2
import Derived.Test.YtplkmbfeeegaiaaGreatDoorX3
import Derived.Test.YtplkmbfeeegaiaaGreatDoorX4
import Derived.Test.YtplkmbfeeegaiaaGreatDoorX5
import Derived.Test.YtplkmbfeeegaiaaGreatDoorRows
import Derived.Test.YtplkmbfeeegaiaaGreatDoorTie
import Derived.Test.YtplkmbfeeegaiaaGreatDoorCards
import Derived.Lib.LaidTab
import Derived.Stop.LaidErr
import Derived.SizedLaws
import Derived.Deep.Slices
import Derived.ChangeSame
import Derived.ProofKit
import Derived.OpenShut
import Derived.LaidMore
import Derived.Stop.Joined
import Derived.SevenTiedAt
import Derived.Deep.Fields
import Derived.Lib.SmallJoins
import Derived.Shelf.SlGeneric
import Derived.Shelf.SlSortCmp.WholeK
import Derived.Ground.SlsfProg
import Derived.Test.YtplkmbfeeegaiaaGreatDoorProg
import Derived.WalkKit
import Derived.WalkMore
import Derived.WalkSpells
import Derived.WalkLawsBesides
import Derived.LoopTactic
import Derived.Lib.Hide
import Derived.StillTailTactics
import Derived.Maps.Keyed
import Derived.Deep.QuietTactic
import Derived.BigQuiet
import Derived.Sort.Walk0

/-
  sane of the law.
-/
namespace Go.Proofs.YtplkmbfeeegaiaaGreatDoor
open Go.RowKit Go.Shelf

theorem sane_apply : applyL so1 (movesK so1 so7 64) = so7 := by
  have h : so1.length = 64 := so1_ok.2.2.2.1
  have h2 := apply_moves (a := so1) (b := so7) (by rw [h, so7_len]) (ms := movesK so1 so7 so1.length) (List.Perm.refl _)
  rwa [h] at h2
set_option maxRecDepth 100000 in
set_option maxHeartbeats 8000000 in
theorem sane13_any (w : World) (hT : Tab w) : Calls Tryz.prog 12 #[] w fun e w' => e = .returned (.bool true) ∧ Keep (fun _ => False) w w' := by
  have HT := Lib.hid hT
  clear hT
  have i1 : Mbs (w.alloc (.cells #[.int .i64 0, .int .i64 0, .int .i64 1, .int .i64 1, .int .i64 0, .int .i64 1] 35)) (.slice (some ⟨w.heap.size, 0, none⟩) 2 2) sl1 := mbs_owns (lo := w.heap.size) (World.ownsRow_lit w #[.int .i64 0, .int .i64 0, .int .i64 1, .int .i64 1, .int .i64 0, .int .i64 1] 2 (Nat.le_refl _) (by decide) rfl) (by decide) (by unfold I64; decide)
  have k1 : Keep (fun _ => False) w (w.alloc (.cells #[.int .i64 0, .int .i64 0, .int .i64 1, .int .i64 1, .int .i64 0, .int .i64 1] 35)) := (Keep.refl _ w).alloc _
  have H1 := Lib.hid (sane_new _ i1 (HT.out.kept k1))
  have K1 := Lib.hid k1
  clear i1 k1
  go_enter Tryz.func12, Tryz.ntmps12
  go_wp2_with fail
  with_reducible refine H1.out.mono ?_
  rintro e W1 ⟨am, cm, ao, co, rfl, hr, k⟩
  rw [show sl1.length = 2 from rfl] at hr ⊢
  have K2 := Lib.hid (K1.out.trans k)
  have HR1 := Lib.hid hr
  clear H1 K1 hr k
  go_wp2_with fail
  have HB1 := Lib.hid (Box3.new W1 (.int .i64 1) (.slice am 2 cm) (.slice ao 64 co) 27)
  have k : Keep (fun _ => False) W1 (W1.alloc (.cells #[.int .i64 1, .slice am 2 cm, .slice ao 64 co] 27)) := (Keep.refl _ W1).alloc _
  have KV := Lib.hid (K2.out.trans k)
  replace HR1 := Lib.hid (HR1.out.kept k)
  clear k K2
  generalize W1.alloc (.cells #[.int .i64 1, .slice am 2 cm, .slice ao 64 co] 27) = V1 at *
  generalize W1.heap.size = z1 at *
  have HMS : Hid (Mbs V1 (.slice am 2 cm) sl1) := Lib.hid (by
    obtain ⟨-, vm, vo, e, hm, -⟩ := HR1.out
    cases e
    exact hm)
  with_reducible refine (sane_change _ HR1.out HMS.out (HT.out.kept KV.out)).mono ?_
  clear HMS
  rintro e W3 ⟨am3, cm3, ao3, co3, rfl, hr, k⟩
  rw [show sl1.length = 2 from rfl] at hr ⊢
  have ka : Keep (fun _ => False) W3 (W3.alloc (.cells #[.int .i64 2, .slice am3 2 cm3, .slice ao3 64 co3] 27)) := (Keep.refl _ W3).alloc _
  replace KV := Lib.hid (KV.out.trans (k.trans ka))
  replace HB1 := Lib.hid (HB1.out.kept (k.trans ka))
  replace HR1 := Lib.hid (HR1.out.kept (k.trans ka))
  have HR3 := Lib.hid (hr.kept ka)
  have HB3 := Lib.hid (Box3.new W3 (.int .i64 2) (.slice am3 2 cm3) (.slice ao3 64 co3) 27)
  clear k ka hr
  go_upto_region 3 with (fail)
  generalize W3.alloc (.cells #[.int .i64 2, .slice am3 2 cm3, .slice ao3 64 co3] 27) = V3 at *
  generalize W3.heap.size = z3 at *
  obtain ⟨x0, x1, x2, -⟩ := HB1.out
  go_wp2_with fail
  clear x0 x1 x2
  with_reducible refine (sane_leave1 HR1.out (HT.out.kept KV.out)).mono ?_
  rintro e W5 ⟨am5, cm5, ao5, co5, rfl, hr, k⟩
  rw [show sl3.length = 1 from rfl] at hr ⊢
  have ka : Keep (fun _ => False) W5 (W5.alloc (.cells #[.int .i64 2, .slice am5 1 cm5, .slice ao5 64 co5] 27)) := (Keep.refl _ W5).alloc _
  replace KV := Lib.hid (KV.out.trans (k.trans ka))
  replace HB1 := Lib.hid (HB1.out.kept (k.trans ka))
  replace HR1 := Lib.hid (HR1.out.kept (k.trans ka))
  replace HB3 := Lib.hid (HB3.out.kept (k.trans ka))
  replace HR3 := Lib.hid (HR3.out.kept (k.trans ka))
  have HR5 := Lib.hid (hr.kept ka)
  have HB5 := Lib.hid (Box3.new W5 (.int .i64 2) (.slice am5 1 cm5) (.slice ao5 64 co5) 27)
  clear k ka hr
  go_upto_region 4 with (fail)
  generalize W5.alloc (.cells #[.int .i64 2, .slice am5 1 cm5, .slice ao5 64 co5] 27) = V5 at *
  generalize W5.heap.size = z5 at *
  obtain ⟨x0, x1, x2, -⟩ := HB5.out
  go_wp2_with fail
  clear x0 x1 x2
  with_reducible refine (sane_leave0 HR5.out (HT.out.kept KV.out)).mono ?_
  rintro e W7 ⟨am7, cm7, ao7, co7, rfl, k⟩
  have ka : Keep (fun _ => False) W7 (W7.alloc (.cells #[.int .i64 0, .slice am7 0 cm7, .slice ao7 0 co7] 27)) := (Keep.refl _ W7).alloc _
  replace KV := Lib.hid (KV.out.trans (k.trans ka))
  replace HB1 := Lib.hid (HB1.out.kept (k.trans ka))
  replace HR1 := Lib.hid (HR1.out.kept (k.trans ka))
  replace HB3 := Lib.hid (HB3.out.kept (k.trans ka))
  replace HR3 := Lib.hid (HR3.out.kept (k.trans ka))
  replace HB5 := Lib.hid (HB5.out.kept (k.trans ka))
  replace HR5 := Lib.hid (HR5.out.kept (k.trans ka))
  have HB7 := Lib.hid (Box3.new W7 (.int .i64 0) (.slice am7 0 cm7) (.slice ao7 0 co7) 27)
  clear k ka
  go_upto_region 5 with (fail)
  generalize W7.alloc (.cells #[.int .i64 0, .slice am7 0 cm7, .slice ao7 0 co7] 27) = V7 at *
  generalize W7.heap.size = z7 at *
  obtain ⟨x0, x1, x2, -⟩ := HB1.out
  go_wp2_with fail
  clear x0 x1 x2
  with_reducible refine (sane_join1 HR1.out (HT.out.kept KV.out)).mono ?_
  rintro e W9 ⟨am9, cm9, ao9, co9, rfl, k⟩
  have ka : Keep (fun _ => False) W9 (W9.alloc (.cells #[.int .i64 0, .slice am9 0 cm9, .slice ao9 0 co9] 27)) := (Keep.refl _ W9).alloc _
  replace KV := Lib.hid (KV.out.trans (k.trans ka))
  replace HB1 := Lib.hid (HB1.out.kept (k.trans ka))
  replace HR1 := Lib.hid (HR1.out.kept (k.trans ka))
  replace HB3 := Lib.hid (HB3.out.kept (k.trans ka))
  replace HR3 := Lib.hid (HR3.out.kept (k.trans ka))
  replace HB5 := Lib.hid (HB5.out.kept (k.trans ka))
  replace HR5 := Lib.hid (HR5.out.kept (k.trans ka))
  replace HB7 := Lib.hid (HB7.out.kept (k.trans ka))
  have HB9 := Lib.hid (Box3.new W9 (.int .i64 0) (.slice am9 0 cm9) (.slice ao9 0 co9) 27)
  clear k ka
  go_upto_region 6 with (fail)
  generalize W9.alloc (.cells #[.int .i64 0, .slice am9 0 cm9, .slice ao9 0 co9] 27) = V9 at *
  generalize W9.heap.size = z9 at *
  obtain ⟨x0, x1, x2, -⟩ := HB1.out
  go_wp2_with fail
  clear x0 x1 x2
  with_reducible refine (sane_join2 HR1.out (HT.out.kept KV.out)).mono ?_
  rintro e W11 ⟨am11, cm11, ao11, co11, rfl, hr, k⟩
  rw [show sl6.length = 3 from rfl] at hr ⊢
  have ka : Keep (fun _ => False) W11 (W11.alloc (.cells #[.int .i64 2, .slice am11 3 cm11, .slice ao11 64 co11] 27)) := (Keep.refl _ W11).alloc _
  replace KV := Lib.hid (KV.out.trans (k.trans ka))
  replace HB1 := Lib.hid (HB1.out.kept (k.trans ka))
  replace HR1 := Lib.hid (HR1.out.kept (k.trans ka))
  replace HB3 := Lib.hid (HB3.out.kept (k.trans ka))
  replace HR3 := Lib.hid (HR3.out.kept (k.trans ka))
  replace HB5 := Lib.hid (HB5.out.kept (k.trans ka))
  replace HR5 := Lib.hid (HR5.out.kept (k.trans ka))
  replace HB7 := Lib.hid (HB7.out.kept (k.trans ka))
  replace HB9 := Lib.hid (HB9.out.kept (k.trans ka))
  have HR11 := Lib.hid (hr.kept ka)
  have HB11 := Lib.hid (Box3.new W11 (.int .i64 2) (.slice am11 3 cm11) (.slice ao11 64 co11) 27)
  clear k ka hr
  go_upto_region 7 with (fail)
  generalize W11.alloc (.cells #[.int .i64 2, .slice am11 3 cm11, .slice ao11 64 co11] 27) = V11 at *
  generalize W11.heap.size = z11 at *
  obtain ⟨x0, x1, x2, -⟩ := HB1.out
  go_wp2_with fail
  clear x0 x1 x2
  with_reducible refine (sane_replace HR1.out (HT.out.kept KV.out)).mono ?_
  rintro e W13 ⟨am13, cm13, ao13, co13, rfl, hr, k⟩
  rw [show sl7.length = 2 from rfl] at hr ⊢
  have ka : Keep (fun _ => False) W13 (W13.alloc (.cells #[.int .i64 2, .slice am13 2 cm13, .slice ao13 64 co13] 27)) := (Keep.refl _ W13).alloc _
  replace KV := Lib.hid (KV.out.trans (k.trans ka))
  replace HB1 := Lib.hid (HB1.out.kept (k.trans ka))
  replace HR1 := Lib.hid (HR1.out.kept (k.trans ka))
  replace HB3 := Lib.hid (HB3.out.kept (k.trans ka))
  replace HR3 := Lib.hid (HR3.out.kept (k.trans ka))
  replace HB5 := Lib.hid (HB5.out.kept (k.trans ka))
  replace HR5 := Lib.hid (HR5.out.kept (k.trans ka))
  replace HB7 := Lib.hid (HB7.out.kept (k.trans ka))
  replace HB9 := Lib.hid (HB9.out.kept (k.trans ka))
  replace HB11 := Lib.hid (HB11.out.kept (k.trans ka))
  replace HR11 := Lib.hid (HR11.out.kept (k.trans ka))
  have HR13 := Lib.hid (hr.kept ka)
  have HB13 := Lib.hid (Box3.new W13 (.int .i64 2) (.slice am13 2 cm13) (.slice ao13 64 co13) 27)
  clear k ka hr
  go_upto_region 8 with (fail)
  generalize W13.alloc (.cells #[.int .i64 2, .slice am13 2 cm13, .slice ao13 64 co13] 27) = V13 at *
  generalize W13.heap.size = z13 at *
  obtain ⟨x0, x1, x2, -⟩ := HB13.out
  obtain ⟨a0, a1, a2, -⟩ := HB1.out
  go_wp2_with fail
  clear x0 x1 x2 a0 a1 a2
  have hl1 : so1.length = 64 := so1_ok.2.2.2.1
  with_reducible refine (moves_any _ _ 1 2 sl1 sl7 so1 so7 V13 HR1.out HR13.out hl1 so7_len).mono ?_
  rintro e W15 ⟨a15, c15, rfl, hmv, k⟩
  obtain ⟨n15, hn15⟩ : ∃ n, (movesK so1 so7 64).length = n := ⟨_, rfl⟩
  have HMV : Hid (Mvs W15 (.slice a15 n15 c15) (movesK so1 so7 64)) := Lib.hid (by
    rw [← hn15]
    exact mvs_owns hmv (by have := movesK_len so1 so7 64; omega) (movesK_bd (okRing_nodes so1_ok) so7_bd))
  have HN15 : Hid ((n15 : Int) = cnt so1 0) := Lib.hid (by rw [← hn15]; exact so7_moves)
  have hlt15 : n15 ≤ 64 := by rw [← hn15]; exact movesK_len so1 so7 64
  rw [hn15]
  replace KV := Lib.hid (KV.out.trans k)
  replace HB1 := Lib.hid (HB1.out.kept k)
  replace HR1 := Lib.hid (HR1.out.kept k)
  replace HB3 := Lib.hid (HB3.out.kept k)
  replace HR3 := Lib.hid (HR3.out.kept k)
  replace HB5 := Lib.hid (HB5.out.kept k)
  replace HR5 := Lib.hid (HR5.out.kept k)
  replace HB11 := Lib.hid (HB11.out.kept k)
  replace HR11 := Lib.hid (HR11.out.kept k)
  replace HB13 := Lib.hid (HB13.out.kept k)
  replace HR13 := Lib.hid (HR13.out.kept k)
  clear hmv k hn15
  go_upto_region 11 with (fail)
  clear HB7 HB9
  have r10 : ∀ p : KA (fun _ => False) W15, p.val.cell? ⟨z1, 0, none⟩ = some (.int .i64 1) := fun p => (HB1.out.kept p.k).1
  have r11 : ∀ p : KA (fun _ => False) W15, p.val.cell? ⟨z1, 1, none⟩ = some (.slice am 2 cm) := fun p => (HB1.out.kept p.k).2.1
  have r12 : ∀ p : KA (fun _ => False) W15, p.val.cell? ⟨z1, 2, none⟩ = some (.slice ao 64 co) := fun p => (HB1.out.kept p.k).2.2.1
  have r130 : ∀ p : KA (fun _ => False) W15, p.val.cell? ⟨z13, 0, none⟩ = some (.int .i64 2) := fun p => (HB13.out.kept p.k).1
  have r131 : ∀ p : KA (fun _ => False) W15, p.val.cell? ⟨z13, 1, none⟩ = some (.slice am13 2 cm13) := fun p => (HB13.out.kept p.k).2.1
  have r132 : ∀ p : KA (fun _ => False) W15, p.val.cell? ⟨z13, 2, none⟩ = some (.slice ao13 64 co13) := fun p => (HB13.out.kept p.k).2.2.1
  refine wp_region_walk [(false, 0), (false, 1), (false, 2), (false, 3), (true, 4), (false, 5), (false, 6), (false, 7), (false, 8), (false, 9), (false, 10), (false, 11), (false, 12), (false, 13), (false, 14), (false, 15), (false, 16), (false, 17), (false, 18), (false, 19), (false, 20), (false, 21), (false, 22), (false, 23), (false, 24), (false, 25), (false, 26), (false, 27), (false, 28), (false, 29), (false, 30), (false, 31), (false, 32), (false, 33), (true, 34), (true, 35), (false, 36), (false, 37), (false, 38), (false, 39), (false, 40), (true, 41), (true, 42), (true, 44), (true, 45), (false, 43), (false, 46), (false, 47), (false, 48), (true, 49), (false, 50), (false, 51), (false, 52), (false, 53), (false, 54), (false, 55)] (inKA (fun _ => False) W15) (by kernel_rfl) (by kernel_rfl) ?_
  have J0 : Hid (Keep (fun _ => False) W15 W15.drew) := Lib.hid (Keep.refl _ W15).drew
  generalize W15.drew = X0 at *
  obtain ⟨x0, x1, x2, -⟩ := HB3.out.kept J0.out
  iterate 4 (refine walkW_do rfl (inKA.of J0.out) (fun K hK => ?_); go_simp; refine hK _ _ ?_; clear hK K)
  iterate 1 (refine walkW_read rfl (fun K hK => ?_); go_simp; refine hK _ ?_; clear hK K)
  iterate 1 (refine walkW_do rfl (inKA.of J0.out) (fun K hK => ?_); go_simp; refine hK _ _ ?_; clear hK K)
  clear x0 x1 x2
  have hl1 : so1.length = 64 := so1_ok.2.2.2.1
  have HM6 : Hid (Calls Tryz.prog 30 _ X0 (MvPost [] X0)) := Lib.hid (by have h := moves_any _ _ 1 2 sl1 sl1 so1 so1 X0 (HR1.out.kept J0.out) (HR3.out.kept J0.out) hl1 hl1; rw [movesK_self] at h; exact h)
  refine walkW_do rfl (inKA.of J0.out) (fun K hK => ?_)
  go_simp
  refine HM6.out.mono ?_
  rintro e X1 ⟨q6, d6, rfl, -, k6⟩
  refine hK _ _ ?_; clear hK K
  have J1 := Lib.hid (J0.out.trans k6)
  simp only [List.length_nil]
  iterate 4 (refine walkW_do rfl (inKA.of J1.out) (fun K hK => ?_); go_simp; refine hK _ _ ?_; clear hK K)
  obtain ⟨x0, x1, x2, -⟩ := HB5.out.kept J1.out
  iterate 1 (refine walkW_do rfl (inKA.of J1.out) (fun K hK => ?_); go_simp; refine hK _ _ ?_; clear hK K)
  clear x0 x1 x2
  have HL5 := Lib.hid (load_any _ 2 sl3 so3 X1 (HR5.out.kept J1.out) 0)
  rw [so3_load] at HL5
  refine walkW_do rfl (inKA.of J1.out) (fun K hK => ?_)
  go_simp
  refine HL5.out.mono ?_
  rintro e X2 ⟨rfl, k7⟩
  refine hK _ _ ?_; clear hK K
  have J2 := Lib.hid (J1.out.trans k7)
  iterate 3 (refine walkW_do rfl (inKA.of J2.out) (fun K hK => ?_); go_simp; refine hK _ _ ?_; clear hK K)
  obtain ⟨x0, x1, x2, -⟩ := HB11.out.kept J2.out
  iterate 1 (refine walkW_do rfl (inKA.of J2.out) (fun K hK => ?_); go_simp; refine hK _ _ ?_; clear hK K)
  clear x0 x1 x2
  have HL6 := Lib.hid (load_any _ 2 sl6 so6 X2 (HR11.out.kept J2.out) 0)
  obtain ⟨hc0, hc2⟩ := so6_load
  obtain ⟨e0, he0⟩ : ∃ c, cnt so6 0 = c := ⟨_, rfl⟩
  obtain ⟨e2, he2⟩ : ∃ c, cnt so6 2 = c := ⟨_, rfl⟩
  have HE2 := Lib.hid he2
  rw [he0] at hc0 HL6
  rw [he2] at hc2
  clear he0 he2
  refine walkW_do rfl (inKA.of J2.out) (fun K hK => ?_)
  go_simp
  refine HL6.out.mono ?_
  rintro e X3 ⟨rfl, k8⟩
  refine hK _ _ ?_; clear hK K
  have J3 := Lib.hid (J2.out.trans k8)
  iterate 3 (refine walkW_do rfl (inKA.of J3.out) (fun K hK => ?_); go_simp; refine hK _ _ ?_; clear hK K)
  obtain ⟨x0, x1, x2, -⟩ := HB11.out.kept J3.out
  iterate 1 (refine walkW_do rfl (inKA.of J3.out) (fun K hK => ?_); go_simp; refine hK _ _ ?_; clear hK K)
  clear x0 x1 x2
  have HL7 := Lib.hid (load_any _ 2 sl6 so6 X3 (HR11.out.kept J3.out) 2)
  rw [HE2.out] at HL7
  refine walkW_do rfl (inKA.of J3.out) (fun K hK => ?_)
  go_simp
  refine HL7.out.mono ?_
  rintro e X4 ⟨rfl, k9⟩
  refine hK _ _ ?_; clear hK K
  have J4 := Lib.hid (J3.out.trans k9)
  iterate 3 (refine walkW_do rfl (inKA.of J4.out) (fun K hK => ?_); go_simp; refine hK _ _ ?_; clear hK K)
  have HC7 : Hid (∃ b7 o7, am13 = some ⟨b7, o7, none⟩ ∧ 2 ≤ cm13 ∧ X4.cell? ⟨b7, o7 + 3, none⟩ = some (.int .i64 7)) := Lib.hid (by
    obtain ⟨-, vm, vo, e, hm, -⟩ := HR13.out.kept J4.out
    cases e
    obtain ⟨-, -, a, c, b, off, hv, hc, ha, hcell⟩ := hm
    cases hv
    exact ⟨b, off, ha (by decide), hc, (hcell 1 ⟨7, 0, 1⟩ rfl).1⟩)
  obtain ⟨b7, o7, rfl, hcm, c7⟩ := HC7.out
  obtain ⟨x0, x1, x2, -⟩ := HB13.out.kept J4.out
  iterate 8 (refine walkW_do rfl (inKA.of J4.out) (fun K hK => ?_); go_simp; refine hK _ _ ?_; clear hK K)
  clear x0 x1 x2
  clear c7 HC7
  iterate 2 (refine walkW_read rfl (fun K hK => ?_); go_simp; refine hK _ ?_; clear hK K)
  obtain ⟨x0, x1, x2, -⟩ := HB1.out.kept J4.out
  iterate 1 (refine walkW_do rfl (inKA.of J4.out) (fun K hK => ?_); go_simp; refine hK _ _ ?_; clear hK K)
  clear x0 x1 x2
  have HL8 := Lib.hid (load_any _ 1 sl1 so1 X4 (HR1.out.kept J4.out) 0)
  rw [← HN15.out] at HL8
  refine walkW_do rfl (inKA.of J4.out) (fun K hK => ?_)
  go_simp
  refine HL8.out.mono ?_
  rintro e X5 ⟨rfl, k10⟩
  refine hK _ _ ?_; clear hK K
  have J5 := Lib.hid (J4.out.trans k10)
  iterate 3 (refine walkW_do rfl (inKA.of J5.out) (fun K hK => ?_); go_simp; refine hK _ _ ?_; clear hK K)
  iterate 4 (refine walkW_read rfl (fun K hK => ?_); go_simp; refine hK _ ?_; clear hK K)
  have HAP : Hid (Calls Tryz.prog 27 _ X5 (CloneI so7 X5)) := Lib.hid (by have h := apply_any _ _ 1 sl1 so1 (movesK so1 so7 64) X5 (HR1.out.kept J5.out) hl1 (HMV.out.kept J5.out) moves_slot; rw [sane_apply] at h; exact h)
  refine walkW_do rfl (inKA.of J5.out) (fun K hK => ?_)
  go_simp
  refine HAP.out.mono ?_
  rintro e X6 ⟨q7, d7, rfl, hown, k11⟩
  refine hK _ _ ?_; clear hK K
  have J6 := Lib.hid (J5.out.trans k11)
  have h64 := so7_len
  have HI7 : Hid (Its X6 (.slice q7 so7.length d7) so7) := Lib.hid (its_owns hown (by rw [h64]; decide) (fun x hx => by have := so7_bd x hx; unfold I64; omega))
  rw [h64] at HI7 ⊢
  have HI8 : Hid (Its X6 (.slice ao13 64 co13) so7) := Lib.hid (by obtain ⟨-, vm, vo, e, -, hi⟩ := HR13.out.kept J6.out; cases e; exact hi)
  have HSI := Lib.hid (sameInts_any _ _ so7 so7 X6 HI7.out HI8.out)
  rw [decide_eq_true (rfl : so7 = so7)] at HSI
  clear hown
  refine walkW_do rfl (inKA.of J6.out) (fun K hK => ?_)
  go_simp
  refine HSI.out.mono ?_
  rintro e X7 ⟨rfl, k12⟩
  refine hK _ _ ?_; clear hK K
  have J7 := Lib.hid (J6.out.trans k12)
  iterate 2 (refine walkW_do rfl (inKA.of J7.out) (fun K hK => ?_); go_simp; refine hK _ _ ?_; clear hK K)
  iterate 1 (refine walkW_read rfl (fun K hK => ?_); go_simp; refine hK _ ?_; clear hK K)
  iterate 1 (refine walkW_do rfl (inKA.of J7.out) (fun K hK => ?_); go_simp; refine hK _ _ ?_; clear hK K)
  have HMN : Hid (Calls Tryz.prog 30 _ X7 (MvPost [] X7)) := Lib.hid (moves_none _ _ 1 0 sl1 [] so1 [] X7 (HR1.out.kept J7.out) (nil_rng X7) hl1 (by decide))
  refine walkW_do rfl (inKA.of J7.out) (fun K hK => ?_)
  go_simp
  refine HMN.out.mono ?_
  rintro e X8 ⟨q8, d8, rfl, -, k13⟩
  refine hK _ _ ?_; clear hK K
  have J8 := Lib.hid (J7.out.trans k13)
  simp only [List.length_nil]
  iterate 4 (refine walkW_do rfl (inKA.of J8.out) (fun K hK => ?_); go_simp; refine hK _ _ ?_; clear hK K)
  refine ⟨inKA.of J8.out, ?_⟩
  go_wp2_with fail
  go_ret
  exact ⟨by simp, KV.out.trans J8.out⟩
end Go.Proofs.YtplkmbfeeegaiaaGreatDoor

/-
  New and Change on lists that are valid, for the laws of Reshard.
-/
namespace Go.Proofs.YtplkmbfeeegaiaaGreatDoor
open Go.RowKit Go.Shelf

theorem good_new {W : World} (vl : Value) (l : List Mb) (h : Mbs W vl l) (hv : VL l) (hT : Tab W) : Calls Tryz.prog 13 #[.int .i64 1, vl] W (GoodPost 1 l (ownersL PN QS l) W) :=
  (new_ok 1 vl l W h hv hT (by decide)).mono (fun _ _ h => h.use hv (by unfold I64; decide))
theorem good_change {W : World} (v vl : Value) (ep : Int) (l l' : List Mb) (ow : List Int) (h : Rng W v ep l ow) (ho : okRing ep l ow) (he : ep < 1000000) (hl : Mbs W vl l') (hv : VL l') (hT : Tab W) : Calls Tryz.prog 22 #[v, vl] W (GoodPost (ep + 1) l' (changeL PN QS l' ow) W) :=
  (changeR_ok v vl ep l l' ow W h ((validRB_iff _ _ _).2 ho) he hl hv hT).mono (fun _ _ h => by
    have h2 := ok_change PN QS ho hv he
    exact h.use hv (by have := ho.1; unfold I64; omega) h2.2.2.2.1 h2.obd)
/-- A valid ring that came out of a call, in blocks of its own. -/
def FreshPost (ep : Int) (l : List Mb) (ow : List Int) (w : World) (e : Ending) (w' : World) : Prop := ∃ am cm ao co, e = .returned (.tuple #[.agg #[.int .i64 ep, .slice am l.length cm, .slice ao 64 co], .int .i64 0]) ∧ Rng w' (.agg #[.int .i64 ep, .slice am l.length cm, .slice ao 64 co]) ep l ow ∧ ((∀ b, (Value.slice am l.length cm).ownBlock = some b → w.heap.size ≤ b) ∧ ∀ b, (Value.slice ao 64 co).ownBlock = some b → w.heap.size ≤ b) ∧ Keep (fun _ => False) w w'
theorem RingPost.fresh {ep : Int} {l : List Mb} {ow : List Int} {w : World} {e : Ending} {w' : World} (h : RingPost ep l ow w e w') (hv : VL l) (hep : I64 ep) (ho : ow.length = 64) (hob : ∀ x ∈ ow, I64 x) : FreshPost ep l ow w e w' := by
  obtain ⟨am, cm, ao, co, rfl, h2, h3, h4⟩ := h
  have h5 := its_owns h3 (by omega) hob
  rw [ho] at h3 h5 ⊢
  exact ⟨am, cm, ao, co, rfl, ⟨hep, _, _, rfl, mbs_owns h2 (by have := hv.len; omega) hv.bd, h5⟩, ⟨fun b hb => (h2.lt b hb).1, fun b hb => (h3.lt b hb).1⟩, h4⟩
theorem fresh_change {W : World} (v vl : Value) (ep : Int) (l l' : List Mb) (ow : List Int) (h : Rng W v ep l ow) (ho : okRing ep l ow) (he : ep < 1000000) (hl : Mbs W vl l') (hv : VL l') (hT : Tab W) : Calls Tryz.prog 22 #[v, vl] W (FreshPost (ep + 1) l' (changeL PN QS l' ow) W) :=
  (changeR_ok v vl ep l l' ow W h ((validRB_iff _ _ _).2 ho) he hl hv hT).mono (fun _ _ h => by
    have h2 := ok_change PN QS ho hv he
    exact h.fresh hv (by have := ho.1; unfold I64; omega) h2.2.2.2.1 h2.obd)
theorem Rng.keep {W W' : World} {A : Nat → Prop} {ep : Int} {a b : Value} {l : List Mb} {ow : List Int} (h : Rng W (.agg #[.int .i64 ep, a, b]) ep l ow) (k : Keep A W W') (ha : ∀ j, a.ownBlock = some j → ¬ A j) (hb : ∀ j, b.ownBlock = some j → ¬ A j) : Rng W' (.agg #[.int .i64 ep, a, b]) ep l ow := by
  obtain ⟨vm, vo, e, h1, h2⟩ := h.at_
  cases e
  exact ⟨h.bd, _, _, rfl, h1.keep k ha, h2.keep k hb⟩
/-- Members, then New. -/
theorem members_mbs {W : World} (v : Value) (xs : List Int) (h : Its W v xs) : Calls Tryz.prog 14 #[v] W fun e w' => ∃ a c, e = .returned (.slice a (mem13 xs).length c) ∧ Mbs w' (.slice a (mem13 xs).length c) (mem13 xs) ∧ Keep (fun _ => False) W w' :=
  (members13_any v xs W h).mono (fun _ _ h => by
    obtain ⟨v', rfl, h1, h2⟩ := h
    obtain ⟨a, c, b, off, rfl, hr⟩ := h1.at_
    exact ⟨a, c, rfl, h1, h2⟩)
end Go.Proofs.YtplkmbfeeegaiaaGreatDoor

/-
  One step of ReshardMatchesReference: what both sides answer.
-/
namespace Go.Proofs.YtplkmbfeeegaiaaGreatDoor
open Go.RowKit Go.Shelf

/-- A ring and an error number that come back. -/
def StepPost (E : Int) (L : List Mb) (O : List Int) (err : Int) (w : World) (e : Ending) (w' : World) : Prop := ∃ am cm ao co, e = .returned (.tuple #[.agg #[.int .i64 E, .slice am L.length cm, .slice ao O.length co], .int .i64 err]) ∧ Rng w' (.agg #[.int .i64 E, .slice am L.length cm, .slice ao O.length co]) E L O ∧ ((∀ j, (Value.slice am L.length cm).ownBlock = some j → w.heap.size ≤ j) ∧ ∀ j, (Value.slice ao O.length co).ownBlock = some j → w.heap.size ≤ j) ∧ Keep (fun _ => False) w w'
/-- What they say of the ring before. -/
def StepOk (ep : Int) (b : Nat) (E : Int) (L : List Mb) (O : List Int) (err : Int) : Prop := (err = 0 ∧ okRing E L O ∧ E = ep + 1 ∧ L.length ≤ b + 1) ∨ err = 120
theorem okRing.rngs {ep : Int} {l : List Mb} {ow : List Int} (h : okRing ep l ow) : I64 ep ∧ (∀ m ∈ l, I64 m.node ∧ I64 m.region ∧ I64 m.weight) ∧ (∀ x ∈ ow, I64 x) := by
  refine ⟨?_, h.2.2.1.bd, h.obd⟩
  have h1 := h.1
  have h2 := h.2.1
  unfold I64
  omega
theorem RingRes.step {ok : Bool} {ep : Int} {l : List Mb} {ow : List Int} (hok : ok = true → okRing ep l ow) : ∃ E L O err, (∀ w e w', RingRes ok ep l ow w e w' → StepPost E L O err w e w') ∧ ((ok = true ∧ E = ep ∧ L = l ∧ O = ow ∧ err = 0) ∨ (ok = false ∧ err = 120)) := by
  cases ok with
  | true =>
    obtain ⟨h1, h2, h3⟩ := (hok rfl).rngs
    have hll : l.length ≤ 24 := (hok rfl).2.2.1.len
    have hol : ow.length = 64 := (hok rfl).2.2.2.1
    refine ⟨ep, l, ow, 0, fun w e w' h => ?_, .inl ⟨rfl, rfl, rfl, rfl, rfl⟩⟩
    obtain ⟨ep', l', ow', err, am, nm, cm, ao, no, co, q1, -, q3, q4, rfl, r1, r2, k⟩ := h
    obtain ⟨rfl, rfl, rfl, rfl⟩ := q1 rfl
    subst q3 q4
    exact ⟨am, cm, ao, co, rfl, ⟨h1, _, _, rfl, mbs_owns r1 (by omega) h2, its_owns r2 (by omega) h3⟩, ⟨fun b hb => (r1.lt b hb).1, fun b hb => (r2.lt b hb).1⟩, k⟩
  | false =>
    refine ⟨0, [], [], 120, fun w e w' h => ?_, .inr ⟨rfl, rfl⟩⟩
    obtain ⟨ep', l', ow', err, am, nm, cm, ao, no, co, -, q2, q3, q4, rfl, r1, r2, k⟩ := h
    obtain ⟨rfl, rfl, rfl, rfl⟩ := q2 rfl
    subst q3 q4
    exact ⟨am, cm, ao, co, rfl, ⟨by unfold I64; decide, _, _, rfl, mbs_owns r1 (by simp) (by simp), its_owns r2 (by simp) (by simp)⟩, ⟨fun b hb => (r1.lt b hb).1, fun b hb => (r2.lt b hb).1⟩, k⟩

theorem chOk_true {ep : Int} {lr l : List Mb} {ow : List Int} (h : chOk ep lr l ow = true) : okRing ep lr ow ∧ VL l ∧ ep < 1000000 := by
  unfold chOk at h
  simp only [Bool.and_eq_true, decide_eq_true_eq] at h
  exact ⟨(validRB_iff ep lr ow).1 h.1, (validL_iff l).1 h.2.1, h.2.2⟩
theorem step_change (ep : Int) (lr l : List Mb) (ow : List Int) (b : Nat) (hb : l.length ≤ b + 1) : ∃ E L O err, StepOk ep b E L O err ∧
    ∀ v vl W, Rng W v ep lr ow → Mbs W vl l → Tab W → Calls Tryz.prog 22 #[v, vl] W (StepPost E L O err W) ∧ Calls Tryz.prog 23 #[v, vl] W (StepPost E L O err W) := by
  obtain ⟨E, L, O, err, h1, h2⟩ := RingRes.step (ok := chOk ep lr l ow) (ep := ep + 1) (l := l) (ow := changeL PN QS l ow) (fun h => by
    obtain ⟨a1, a2, a3⟩ := chOk_true h
    exact ok_change PN QS a1 a2 a3)
  refine ⟨E, L, O, err, ?_, fun v vl W h hl hT => ⟨(changeU v vl ep lr l ow W h hl hT).mono (fun e w' => h1 W e w'), (refChangeU v vl ep lr l ow W h hl).mono (fun e w' => h1 W e w')⟩⟩
  rcases h2 with ⟨h3, rfl, rfl, hO, rfl⟩ | ⟨-, rfl⟩
  · obtain ⟨a1, a2, a3⟩ := chOk_true h3
    exact .inl ⟨rfl, by rw [hO]; exact ok_change PN QS a1 a2 a3, rfl, hb⟩
  · exact .inr rfl
theorem step_join (ep : Int) (lr : List Mb) (ow : List Int) (m : Mb) (b : Nat) (hok : okRing ep lr ow) (hb : lr.length ≤ b) (hb18 : b ≤ 18) (hm : I64 m.node ∧ I64 m.region ∧ I64 m.weight) : ∃ E L O err, StepOk ep b E L O err ∧
    ∀ v W, Rng W v ep lr ow → Tab W → Calls Tryz.prog 16 #[v, mbV m] W (StepPost E L O err W) ∧ Calls Tryz.prog 17 #[v, mbV m] W (StepPost E L O err W) := by
  have hj : joinOk ep lr ow m = true → okRing (ep + 1) (moreM lr m) (changeL PN QS (moreM lr m) ow) ∧ (moreM lr m).length ≤ b + 1 := fun h => by
    unfold joinOk at h
    simp only [Bool.and_eq_true, Bool.not_eq_true'] at h
    obtain ⟨a1, a2, a3⟩ := chOk_true h.2
    exact ⟨ok_change PN QS a1 a2 a3, by rw [moreM_len hok.2.2.1.asc (hasN_false h.1)]; omega⟩
  obtain ⟨E, L, O, err, h1, h2⟩ := RingRes.step (ok := joinOk ep lr ow m) (ep := ep + 1) (l := moreM lr m) (ow := changeL PN QS (moreM lr m) ow) (fun h => (hj h).1)
  refine ⟨E, L, O, err, ?_, fun v W h hT => ⟨(join_any v ep lr ow m W h hm (by omega) hT).mono (fun e w' => h1 W e w'), (refJoin_any v ep lr ow m W h hm (by omega) hok.2.2.1.asc).mono (fun e w' => h1 W e w')⟩⟩
  rcases h2 with ⟨h3, rfl, rfl, hO, rfl⟩ | ⟨-, rfl⟩
  · exact .inl ⟨rfl, by rw [hO]; exact (hj h3).1, rfl, (hj h3).2⟩
  · exact .inr rfl
theorem step_leave (ep : Int) (lr : List Mb) (ow : List Int) (n : Int) (b : Nat) (hb : lr.length ≤ b) (hb18 : b ≤ 18) : ∃ E L O err, StepOk ep b E L O err ∧
    ∀ v W, Rng W v ep lr ow → Tab W → Calls Tryz.prog 18 #[v, .int .i64 n] W (StepPost E L O err W) ∧ Calls Tryz.prog 19 #[v, .int .i64 n] W (StepPost E L O err W) := by
  have hj : leaveOk ep lr ow n = true → okRing (ep + 1) (lr.filter (notN n)) (changeL PN QS (lr.filter (notN n)) ow) ∧ (lr.filter (notN n)).length ≤ b + 1 := fun h => by
    unfold leaveOk at h
    simp only [Bool.and_eq_true] at h
    obtain ⟨a1, a2, a3⟩ := chOk_true h.2
    exact ⟨ok_change PN QS a1 a2 a3, by have := List.length_filter_le (notN n) lr; omega⟩
  obtain ⟨E, L, O, err, h1, h2⟩ := RingRes.step (ok := leaveOk ep lr ow n) (ep := ep + 1) (l := lr.filter (notN n)) (ow := changeL PN QS (lr.filter (notN n)) ow) (fun h => (hj h).1)
  refine ⟨E, L, O, err, ?_, fun v W h hT => ⟨(leave_any v ep lr ow n W h (by omega) hT).mono (fun e w' => h1 W e w'), (refLeave_any v ep lr ow n W h (by omega)).mono (fun e w' => h1 W e w')⟩⟩
  rcases h2 with ⟨h3, rfl, rfl, hO, rfl⟩ | ⟨-, rfl⟩
  · exact .inl ⟨rfl, by rw [hO]; exact (hj h3).1, rfl, (hj h3).2⟩
  · exact .inr rfl
theorem step_replace (ep : Int) (lr : List Mb) (ow : List Int) (n s : Int) (b : Nat) (hb : lr.length ≤ b) (hb18 : b ≤ 18) : ∃ E L O err, StepOk ep b E L O err ∧
    ∀ v W, Rng W v ep lr ow → Tab W → Calls Tryz.prog 20 #[v, .int .i64 n, .int .i64 s] W (StepPost E L O err W) ∧ Calls Tryz.prog 21 #[v, .int .i64 n, .int .i64 s] W (StepPost E L O err W) := by
  obtain ⟨E, L, O, err, h1, h2⟩ := RingRes.step (ok := repOk ep lr ow n s) (ep := ep + 1) (l := repM lr n s) (ow := ow.map (repF n s)) (fun h => (ok_replace h).1)
  refine ⟨E, L, O, err, ?_, fun v W h hT => ⟨(replaceU v ep lr ow n s W h (by omega) hT).mono (fun e w' => h1 W e w'), (refReplaceU v ep lr ow n s W h).mono (fun e w' => h1 W e w')⟩⟩
  rcases h2 with ⟨h3, rfl, rfl, rfl, rfl⟩ | ⟨-, rfl⟩
  · exact .inl ⟨rfl, (ok_replace h3).1, rfl, by rw [(ok_replace h3).2]; omega⟩
  · exact .inr rfl
end Go.Proofs.YtplkmbfeeegaiaaGreatDoor

/-
  From a row's own condition to the walks: the table, the slices of integers.
-/
namespace Go.Proofs.YtplkmbfeeegaiaaGreatDoor
open Go.ChangeShapes Go.WideShapes Go.ChangeAt Go.RowKit Go.Shelf

/-- What every row lists. -/
abbrev laid4 : List (String × DataW Unit) := [("math/bits.deBruijn32tab", Rows.laid_math_bits_deBruijn32tab), ("math/bits.deBruijn64tab", Rows.laid_math_bits_deBruijn64tab), ("internal/strconv.uint64pow10", Rows.laid_internal_strconv_uint64pow10), ("cachetier/wire.nibbles", Rows.laid_cachetier_wire_nibbles)]
theorem own : ownKnob Tryz.prog.godebug = none := by kernel_rfl
theorem laidOut : laidOutB Tryz.prog = true := by kernel_rfl
theorem gNib : Tryz.prog.globalNamed "cachetier/wire.nibbles" = some 0 := by kernel_rfl
theorem tNib : (Tryz.prog.globals[0]?).map (·.type) = some 175 := by kernel_rfl
theorem cellsI : Tryz.prog.cellsOf 3 = 1 := by kernel_rfl
theorem bytesI : Tryz.prog.bytesOf 3 = 8 := by kernel_rfl
theorem door_met (os : Os) (args : Array Value) : laidMetH Tryz.prog laid4 ((World.doorLaid Tryz.prog 400 os).forCall (fun _ _ => 0) ⟨#[], args, []⟩).memory :=
  laidMetH_of_parts3 (fuel := 8) (laidMet_of_run' 8 (by kernel_rfl) (by kernel_rfl)) (by kernel_rfl) (by kernel_rfl)
theorem tab_of_laid {W : World} (h : laidMetH Tryz.prog laid4 W) : Tab W := by
  rw [MakeChecks.laidMetH_plain _ _ _ (by kernel_rfl)] at h
  have h3 := h.tail.tail.tail
  have ht : Lib.TabIs Tryz.prog W "cachetier/wire.nibbles" .u32 (tabL.map (fun n : Nat => (n : Int))) := Lib.tabIs_of_head gNib tNib Tryz.underlying175 Tryz.underlying174 (by kernel_rfl) (by kernel_rfl) h3
  intro i hi
  have hc := ht.cell gNib i (by rw [List.length_map]; exact hi)
  rw [hc, List.getD_eq_getElem?_getD, List.getElem?_map, List.getD_eq_getElem?_getD]
  cases hx : tabL[i]? with
  | none => rfl
  | some x => rfl
theorem ints_open {H : Type} {enc : TypeId × Value → H} {w : World} {base fuel : Nat} {spare : Nat → Bool} {held : Bool} {a : Option Addr} {len cap : Nat} {x : DataW H × List MemPlace} (h : DataW.trod enc Tryz.prog w base spare held fuel 22 [.slice a len cap] = some x)
    (hs : ∀ el sp, x.1 = .slice el sp → (el.length + sp.length) * Tryz.prog.bytesOf 3 ≤ reachBytes) : ∃ xs, Its w (.slice a len cap) xs := by
  rcases open_ints Tryz.underlying22 Tryz.underlying3 cellsI h with ⟨hcs, _⟩ | ⟨ad, l, c, zs, hcs, _, hl, hm, hz, hx, hcell, hwz⟩
  · cases hcs
    exact ⟨[], Its.nil w⟩
  · cases hcs
    have hlz : len ≤ zs.length := by rw [hz]; split <;> omega
    have h1 := hs _ _ (by rw [hx])
    rw [bytesI] at h1
    simp only [lits, List.length_map, List.length_take, List.length_drop, reachBytes] at h1
    refine ⟨zs.take len, ⟨by rw [List.length_take]; omega, fun x hx => bounds_i64 (hwz x (List.mem_of_mem_take hx)), ?_⟩⟩
    have hll : (zs.take len).length = len := by rw [List.length_take]; omega
    obtain ⟨b, off, spot⟩ := ad
    refine ⟨some ⟨b, off, spot⟩, cap, b, off, by rw [hll], by rw [hll]; exact hl, fun h0 => ?_, fun j x hj => ?_⟩
    · have hspot : spot = none := by simpa [Addr.add] using World.cell?_spot (hcell 0 (by omega))
      rw [hspot]
    · have hj1 : j < len := by have := (List.getElem?_eq_some_iff.1 hj).1; omega
      have hspot : spot = none := by simpa [Addr.add] using World.cell?_spot (hcell 0 (by omega))
      subst hspot
      have hc := hcell j (by omega)
      rw [Addr.add_lit] at hc
      rw [hc]
      rw [List.getElem?_take_of_lt hj1] at hj
      rw [List.getD_eq_getElem?_getD, hj]
      rfl
end Go.Proofs.YtplkmbfeeegaiaaGreatDoor

/-
  A slice of members that came in.
-/
namespace Go.Proofs.YtplkmbfeeegaiaaGreatDoor
open Go.ChangeShapes Go.WideShapes Go.ChangeAt Go.RowKit Go.Shelf

theorem cellsMb : Tryz.prog.cellsOf 35 = 3 := by kernel_rfl
theorem mb_cells {H : Type} {enc : TypeId × Value → H} {w : World} {base n : Nat} {spare : Nat → Bool} {held : Bool} {a : Addr} {cs : List Value} {x : DataW H × List MemPlace} (hc : w.cells? base a (Tryz.prog.cellsOf 35) = some cs)
    (ht : DataW.trod enc Tryz.prog w base spare held n 35 cs = some x) (j : Nat) (hj : j < 3) : ∃ z, w.cell? (a.add j) = some (.int .i64 z) ∧ -9223372036854775808 ≤ z ∧ z ≤ 9223372036854775807 := by
  rw [cellsMb] at hc
  obtain ⟨_, hcl, hat⟩ := World.cells?_some hc
  obtain ⟨ys, n', _, _, _, hyl, hf⟩ := DataW.trod_struct Tryz.underlying35 ht
  have hyl' : ys.length = 3 := hyl
  have key : ∀ (f : Field), (#[({ name := "Node", type := 3, offset := 0, embedded := false, tag := "", pkgPath := "", byteOffset := 0 } : Field), { name := "Region", type := 3, offset := 1, embedded := false, tag := "", pkgPath := "", byteOffset := 8 }, { name := "Weight", type := 3, offset := 2, embedded := false, tag := "", pkgPath := "", byteOffset := 16 }] : Array Field)[j]? = some f → f.type = 3 → f.offset = j → ∃ z, w.cell? (a.add j) = some (.int .i64 z) ∧ -9223372036854775808 ≤ z ∧ z ≤ 9223372036854775807 := by
    intro f hfj h3 ho
    have h1 := hf j f hfj
    rw [h3, ho, cellsI] at h1
    have hys : ys[j]? = some (ys[j]'(by omega)) := List.getElem?_eq_getElem (by omega)
    rw [hys, List.drop_eq_getElem_cons (by omega)] at h1
    obtain ⟨z, hz, _, hwf⟩ := DataW.trod_int Tryz.underlying3 h1
    have hz' : cs[j]'(by omega) = .int .i64 z := by
      rw [List.take_succ_cons, List.take_zero] at hz
      exact (List.cons.inj hz).1
    refine ⟨z, ?_, bounds_i64 hwf⟩
    rw [hat j hj, List.getElem?_eq_getElem (by omega), hz']
  match j, hj with
  | 0, _ => exact key _ rfl rfl rfl
  | 1, _ => exact key _ rfl rfl rfl
  | 2, _ => exact key _ rfl rfl rfl

theorem mbs_open {H : Type} {enc : TypeId × Value → H} {w : World} {base fuel : Nat} {spare : Nat → Bool} {held : Bool} {a : Option Addr} {len cap : Nat} {x : DataW H × List MemPlace} (h : DataW.trod enc Tryz.prog w base spare held fuel 25 [.slice a len cap] = some x) (hlen : len ≤ 1000000000000000) : ∃ l, Mbs w (.slice a len cap) l ∧ l.length = len := by
  rcases Go.Deep.open_slice Tryz.underlying25 h with ⟨h0, _⟩ | ⟨ad, l, c, m, n, D, Pl, hcs, hb, hl, hm, hmm, hx, hi⟩
  · cases h0
    exact ⟨[], ⟨by simp, by simp, none, 0, 0, 0, rfl, by simp, fun h => by simp at h, fun j x hj => by simp at hj⟩, rfl⟩
  · cases hcs
    have hlm : len ≤ m := by rw [hmm]; split <;> omega
    have hc : ∀ i j, i < len → j < 3 → ∃ z, w.cell? (ad.add (i * 3 + j)) = some (.int .i64 z) ∧ -9223372036854775808 ≤ z ∧ z ≤ 9223372036854775807 := fun i j hi' hj => by
      obtain ⟨cs', h1, h2⟩ := hi i (by omega)
      obtain ⟨z, hz, hb⟩ := mb_cells h1 h2 j hj
      rw [cellsMb, Go.Deep.add_add] at hz
      exact ⟨z, hz, hb⟩
    obtain ⟨b, off, spot⟩ := ad
    by_cases hl0 : len = 0
    · subst hl0
      exact ⟨[], ⟨by simp, by simp, some ⟨b, off, spot⟩, cap, b, off, rfl, hl, fun h => by simp at h, fun j x hj => by simp at hj⟩, rfl⟩
    · obtain ⟨z0, hz0, _⟩ := hc 0 0 (by omega) (by omega)
      have hspot : spot = none := by simpa [Addr.add] using World.cell?_spot hz0
      subst hspot
      have hc2 : ∀ i, ∃ mb : Mb, i < len → (w.cell? ⟨b, off + i * 3, none⟩ = some (.int .i64 mb.node) ∧ w.cell? ⟨b, off + i * 3 + 1, none⟩ = some (.int .i64 mb.region) ∧ w.cell? ⟨b, off + i * 3 + 2, none⟩ = some (.int .i64 mb.weight)) ∧ I64 mb.node ∧ I64 mb.region ∧ I64 mb.weight := fun i => by
        by_cases hil : i < len
        · obtain ⟨z0, h0, b0⟩ := hc i 0 hil (by omega)
          obtain ⟨z1, h1, b1⟩ := hc i 1 hil (by omega)
          obtain ⟨z2, h2, b2⟩ := hc i 2 hil (by omega)
          rw [Addr.add_lit, ← Nat.add_assoc] at h0 h1 h2
          exact ⟨⟨z0, z1, z2⟩, fun _ => ⟨⟨h0, h1, h2⟩, b0, b1, b2⟩⟩
        · exact ⟨⟨0, 0, 0⟩, fun h => absurd h hil⟩
      obtain ⟨F, hF⟩ : ∃ F : Nat → Mb, ∀ i, i < len → (w.cell? ⟨b, off + i * 3, none⟩ = some (.int .i64 (F i).node) ∧ w.cell? ⟨b, off + i * 3 + 1, none⟩ = some (.int .i64 (F i).region) ∧ w.cell? ⟨b, off + i * 3 + 2, none⟩ = some (.int .i64 (F i).weight)) ∧ I64 (F i).node ∧ I64 (F i).region ∧ I64 (F i).weight := ⟨fun i => Classical.choose (hc2 i), fun i => Classical.choose_spec (hc2 i)⟩
      refine ⟨(List.range len).map F, ⟨by simpa using hlen, fun mb hmb => ?_, ?_⟩, by simp⟩
      · obtain ⟨i, hi', rfl⟩ := List.mem_map.1 hmb
        exact (hF i (List.mem_range.1 hi')).2
      · refine ⟨some ⟨b, off, none⟩, cap, b, off, by simp, by simpa using hl, fun _ => rfl, fun j mb hj => ?_⟩
        rw [List.getElem?_map] at hj
        cases hr : (List.range len)[j]? with
        | none => rw [hr] at hj; simp at hj
        | some j' =>
          rw [hr] at hj
          simp only [Option.map_some, Option.some.injEq] at hj
          obtain ⟨h1, h2⟩ := List.getElem?_eq_some_iff.1 hr
          have hjj : j' = j := by simpa using h2.symm
          have hjl : j < len := by simpa using h1
          subst hj
          rw [hjj]
          exact (hF j hjl).1
end Go.Proofs.YtplkmbfeeegaiaaGreatDoor

/-
  A ring that came in.
-/
namespace Go.Proofs.YtplkmbfeeegaiaaGreatDoor
open Go.ChangeShapes Go.WideShapes Go.ChangeAt Go.RowKit Go.Shelf

theorem cellsRg : Tryz.prog.cellsOf 27 = 3 := by kernel_rfl
set_option maxRecDepth 100000 in
theorem ring_fields {H : Type} {enc : TypeId × Value → H} {w : World} {base b0 : Nat} {spare : Nat → Bool} {held : Bool} {r : Reach} {v : Value} {d : DataW H} {p : List MemPlace}
    (hv : Value.okWide Tryz.prog w r b0 27 v) (h : DataW.Trod enc Tryz.prog w base spare held 27 v d p) :
    ∃ (ep : Int) (ma : Option Addr) (mn mc : Nat) (oa : Option Addr) (on oc n : Nat) (y0 y1 y2 : DataW H × List MemPlace), v = ringV ep (.slice ma mn mc) (.slice oa on oc) ∧ I64 ep ∧ d = .agg [y0.1, y1.1, y2.1] ∧ p = y0.2 ++ (y1.2 ++ y2.2) ∧
      DataW.trod enc Tryz.prog w base spare held n 3 [.int .i64 ep] = some y0 ∧ DataW.trod enc Tryz.prog w base spare held n 25 [.slice ma mn mc] = some y1 ∧ DataW.trod enc Tryz.prog w base spare held n 22 [.slice oa on oc] = some y2 := by
  obtain ⟨c0, c1, c2, y0, y1, y2, n, rfl, rfl, rfl, h0, h1, h2⟩ := Go.Joins.open_agg3 Tryz.underlying27 (by kernel_rfl) cellsRg hv h
  obtain ⟨ep, e0, _, w0⟩ := DataW.trod_int Tryz.underlying3 h0
  obtain ⟨ma, mn, mc, e1⟩ := Go.Joins.slice_form Tryz.underlying25 h1
  obtain ⟨oa, on, oc, e2⟩ := Go.Joins.slice_form Tryz.underlying22 h2
  obtain rfl := (List.cons.inj e0).1
  obtain rfl := (List.cons.inj e1).1
  obtain rfl := (List.cons.inj e2).1
  exact ⟨ep, ma, mn, mc, oa, on, oc, n, y0, y1, y2, rfl, bounds_i64 w0, rfl, rfl, h0, h1, h2⟩
end Go.Proofs.YtplkmbfeeegaiaaGreatDoor

/-
  A ring that came in, as the walks want it.
-/
namespace Go.Proofs.YtplkmbfeeegaiaaGreatDoor
open Go.ChangeShapes Go.WideShapes Go.ChangeAt Go.RowKit Go.Shelf

theorem bytesMb : Tryz.prog.bytesOf 35 = 24 := by kernel_rfl
theorem mbs_open' {H : Type} {enc : TypeId × Value → H} {w : World} {base fuel : Nat} {spare : Nat → Bool} {held : Bool} {a : Option Addr} {len cap : Nat} {x : DataW H × List MemPlace} (h : DataW.trod enc Tryz.prog w base spare held fuel 25 [.slice a len cap] = some x)
    (hs : ∀ el sp, x.1 = .slice el sp → (el.length + sp.length) * Tryz.prog.bytesOf 35 ≤ reachBytes) : ∃ l, Mbs w (.slice a len cap) l ∧ l.length = len := by
  refine mbs_open h ?_
  have hl := Go.Joins.sliceLen_trod (d := x.1) (ps := x.2) Tryz.underlying25 h
  cases e : x.1 with
  | slice el sp =>
    rw [e] at hl
    have h1 := hs el sp e
    rw [bytesMb] at h1
    simp only [Go.Joins.sliceLen] at hl
    unfold reachBytes at h1
    omega
  | _ =>
    rw [e] at hl
    simp only [Go.Joins.sliceLen] at hl
    omega
set_option maxRecDepth 100000 in
theorem ring_open {H : Type} {enc : TypeId × Value → H} {w : World} {base b0 : Nat} {spare : Nat → Bool} {held : Bool} {r : Reach} {v : Value} {d : DataW H} {p : List MemPlace}
    (hv : Value.okWide Tryz.prog w r b0 27 v) (h : DataW.Trod enc Tryz.prog w base spare held 27 v d p) (hs : ∀ n ∈ DataW.weights Tryz.prog 27 d, n ≤ reachBytes) : ∃ ep l ow, Rng w v ep l ow := by
  obtain ⟨ep, ma, mn, mc, oa, on, oc, n, y0, y1, y2, rfl, hb, rfl, -, h0, h1, h2⟩ := ring_fields hv h
  have hw : DataW.weights Tryz.prog 27 (.agg [y0.1, y1.1, y2.1]) = DataW.weights Tryz.prog 3 y0.1 ++ (DataW.weights Tryz.prog 25 y1.1 ++ (DataW.weights Tryz.prog 22 y2.1 ++ [])) := by
    simp only [DataW.weights, Tryz.underlying27]
    rfl
  rw [hw] at hs
  obtain ⟨l, hl, -⟩ := mbs_open' h1 (fun el sp e => hs _ (by
    simp only [List.mem_append]
    right; left
    rw [e]
    simp only [DataW.weights, Tryz.underlying25]
    exact List.mem_cons_self))
  obtain ⟨ow, how⟩ := ints_open h2 (fun el sp e => hs _ (by
    simp only [List.mem_append]
    right; right; left
    rw [e]
    simp only [DataW.weights, Tryz.underlying22]
    exact List.mem_cons_self))
  exact ⟨ep, l, ow, hb, _, _, rfl, hl, how⟩
/-- What a datum weighs is among what all weigh. -/
theorem weigh_at {H : Type} {P : Program} {ts : List TypeId} {ds : List (DataW H)} (h : (DataW.weightsEach P ts ds).all (· ≤ reachBytes) = true) {j : Nat} {t : TypeId} {d : DataW H} (ht : ts[j]? = some t) (hd : ds[j]? = some d) : ∀ n ∈ DataW.weights P t d, n ≤ reachBytes := fun n hn => by
  have := List.all_eq_true.1 h _ (DataW.weights_mem_each ht hd n hn)
  simpa using this
end Go.Proofs.YtplkmbfeeegaiaaGreatDoor

/-
  DERIVED: THE SHELF's CONTRACTS AT THIS DUMP, IN PLAIN WORDS (tools/lay-plain.mjs out of 'YtplkmbfeeegaiaaGreatDoorS2.lean', which tools/lay-shelf.mjs wrote): THE SAME DECLARATIONS UNDER THE SAME NAMES: 'import', 'namespace', 'open', 'def', 'theorem' AND NOTHING ELSE: no command of the shelf's: FOR A HAND-IN. Each laying: the table of numbers ('.._ren') and one theorem, a field a fact of the dump's own or the kernel's comparison; each contract: ONE APPLICATION.
-/
namespace Go.Proofs
open Go.Shelf
def Tryz.pdqCand_ren : Go.Shelf.Ren := ⟨fun | 14 => 137 | 20 => 162 | 21 => 163 | 22 => 164 | 23 => 165 | 24 => 166 | 25 => 167 | 26 => 168 | 27 => 169 | 46 => 193 | 47 => 185 | 48 => 186 | 49 => 194 | 50 => 195 | 15 => 135 | 57 => 205 | 28 => 156 | 29 => 157 | n => n, fun | 24 => 150 | 22 => 147 | 3 => 3 | 25 => 152 | 4 => 4 | 0 => 0 | 46 => 190 | 45 => 189 | 50 => 100 | 66 => 215 | 39 => 140 | 55 => 197 | 70 => 219 | 76 => 231 | 77 => 232 | 53 => 174 | 5 => 5 | 9 => 9 | n => n, fun | n => n⟩
theorem Tryz.pdqCand : Go.Proofs.SlLaysF0.n14 Tryz.prog Tryz.pdqCand_ren := {
  mixed := by kernel_rfl
  f14 := ⟨Tryz.f137.name, by decide, Tryz.func137.trans (congrArg some (by kernel_rfl))⟩
  f15 := Tryz.func135.trans (congrArg some (by kernel_rfl))
  f20 := ⟨Tryz.f162.name, by decide, Tryz.func162.trans (congrArg some (by kernel_rfl))⟩
  f21 := ⟨Tryz.f163.name, by decide, Tryz.func163.trans (congrArg some (by kernel_rfl))⟩
  f22 := ⟨Tryz.f164.name, by decide, Tryz.func164.trans (congrArg some (by kernel_rfl))⟩
  f23 := ⟨Tryz.f165.name, by decide, Tryz.func165.trans (congrArg some (by kernel_rfl))⟩
  f24 := ⟨Tryz.f166.name, by decide, Tryz.func166.trans (congrArg some (by kernel_rfl))⟩
  f25 := ⟨Tryz.f167.name, by decide, Tryz.func167.trans (congrArg some (by kernel_rfl))⟩
  f26 := ⟨Tryz.f168.name, by decide, Tryz.func168.trans (congrArg some (by kernel_rfl))⟩
  f27 := ⟨Tryz.f169.name, by decide, Tryz.func169.trans (congrArg some (by kernel_rfl))⟩
  f28 := Tryz.func156.trans (congrArg some (by kernel_rfl))
  f29 := Tryz.func157.trans (congrArg some (by kernel_rfl))
  f46 := ⟨Tryz.f193.name, by decide, Tryz.func193.trans (congrArg some (by kernel_rfl))⟩
  f47 := Tryz.func185.trans (congrArg some (by kernel_rfl))
  f48 := Tryz.func186.trans (congrArg some (by kernel_rfl))
  f49 := ⟨Tryz.f194.name, by decide, Tryz.func194.trans (congrArg some (by kernel_rfl))⟩
  f50 := ⟨Tryz.f195.name, by decide, Tryz.func195.trans (congrArg some (by kernel_rfl))⟩
  f57 := ⟨Tryz.f205.name, by decide, Tryz.func205.trans (congrArg some (by kernel_rfl))⟩
  t0 := Tryz.underlying0
  a0 := Tryz.isAgg0
  z0 := Tryz.sizeOf0
  v0 := Tryz.zeroValue0
  t3 := Tryz.underlying3
  a3 := Tryz.isAgg3
  z3 := Tryz.sizeOf3
  v3 := Tryz.zeroValue3
  t4 := Tryz.underlying4
  a4 := Tryz.isAgg4
  z4 := Tryz.sizeOf4
  v4 := Tryz.zeroValue4
  t5 := Tryz.underlying5
  a5 := Tryz.isAgg5
  z5 := Tryz.sizeOf5
  v5 := Tryz.zeroValue5
  t9 := Tryz.underlying9
  a9 := Tryz.isAgg9
  z9 := Tryz.sizeOf9
  v9 := Tryz.zeroValue9
  t22 := Tryz.underlying147
  a22 := Tryz.isAgg147
  z22 := Tryz.sizeOf147
  v22 := Tryz.zeroValue147
  t25 := Tryz.underlying152
  a25 := Tryz.isAgg152
  z25 := Tryz.sizeOf152
  v25 := Tryz.zeroValue152
  t39 := Tryz.underlying140
  a39 := Tryz.isAgg140
  z39 := Tryz.sizeOf140
  v39 := Tryz.zeroValue140
  t45 := Tryz.underlying189
  a45 := Tryz.isAgg189
  z45 := Tryz.sizeOf189
  v45 := Tryz.zeroValue189
  t46 := Tryz.underlying190
  a46 := Tryz.isAgg190
  z46 := Tryz.sizeOf190
  v46 := Tryz.zeroValue190
  t50 := Tryz.underlying100
  a50 := Tryz.isAgg100
  z50 := Tryz.sizeOf100
  v50 := Tryz.zeroValue100
  t53 := Tryz.underlying174
  a53 := Tryz.isAgg174
  z53 := Tryz.sizeOf174
  v53 := Tryz.zeroValue174
  t55 := Tryz.underlying197
  a55 := Tryz.isAgg197
  z55 := Tryz.sizeOf197
  v55 := Tryz.zeroValue197
  t66 := Tryz.underlying215
  a66 := Tryz.isAgg215
  z66 := Tryz.sizeOf215
  v66 := Tryz.zeroValue215
  t70 := Tryz.underlying219
  a70 := Tryz.isAgg219
  z70 := Tryz.sizeOf219
  v70 := Tryz.zeroValue219
  t76 := Tryz.underlying231
  a76 := Tryz.isAgg231
  z76 := Tryz.sizeOf231
  v76 := Tryz.zeroValue231
  t77 := Tryz.underlying232
  a77 := Tryz.isAgg232
  z77 := Tryz.sizeOf232
  v77 := Tryz.zeroValue232 }
end Go.Proofs

/-
  Holders of a key: the plain model, and what the laws say of it.
-/
namespace Go.Proofs.YtplkmbfeeegaiaaGreatDoor

/-- a stands before b: a greater rank, or the same one and a smaller number. -/
def befC (rk : Int → Int) (a b : Mb) : Prop := rk b.node < rk a.node ∨ (rk a.node = rk b.node ∧ a.node < b.node)
instance (rk : Int → Int) (a b : Mb) : Decidable (befC rk a b) := inferInstanceAs (Decidable (_ ∨ _))
theorem befC_trans {rk : Int → Int} {a b c : Mb} (h1 : befC rk a b) (h2 : befC rk b c) : befC rk a c := by unfold befC at *; omega
theorem befC_irrefl {rk : Int → Int} {a : Mb} (h : befC rk a a) : False := by unfold befC at h; omega
theorem befC_total {rk : Int → Int} {a b : Mb} (h : a.node ≠ b.node) : befC rk a b ∨ befC rk b a := by unfold befC; omega

/-- The first of those that p accepts. -/
def selC (rk : Int → Int) : List Mb → (Mb → Bool) → Option Mb
  | [], _ => none
  | m :: l, p => match selC rk l p with
    | none => if p m then some m else none
    | some x => if p m ∧ befC rk m x then some m else some x

structure BestC (rk : Int → Int) (l : List Mb) (p : Mb → Bool) (x : Mb) : Prop where
  mem : x ∈ l
  ok : p x = true
  best : ∀ y ∈ l, p y = true → y = x ∨ befC rk x y

theorem selC_none {rk : Int → Int} : ∀ {l : List Mb} {p : Mb → Bool}, selC rk l p = none → ∀ y ∈ l, p y = false
  | [], _, _ => by simp
  | m :: l, p, h => by
    unfold selC at h
    cases hs : selC rk l p with
    | none =>
      rw [hs] at h
      have ih := selC_none hs
      intro y hy
      rcases List.mem_cons.1 hy with rfl | hy
      · by_cases hp : p y = true
        · simp [hp] at h
        · simpa using hp
      · exact ih y hy
    | some x => rw [hs] at h; simp only at h; split at h <;> cases h
theorem selC_some {rk : Int → Int} : ∀ {l : List Mb} {p : Mb → Bool} {x : Mb}, l.Pairwise (fun a b => a.node < b.node) → selC rk l p = some x → BestC rk l p x
  | [], _, _, _, h => by simp [selC] at h
  | m :: l, p, x, ha, h => by
    rw [List.pairwise_cons] at ha
    unfold selC at h
    cases hs : selC rk l p with
    | none =>
      rw [hs] at h
      have ih := selC_none hs
      simp only at h
      split at h
      · cases h
        refine ⟨by simp, by assumption, fun y hy hp => ?_⟩
        rcases List.mem_cons.1 hy with rfl | hy
        · exact .inl rfl
        · rw [ih y hy] at hp; cases hp
      · cases h
    | some z =>
      rw [hs] at h
      have ih := selC_some ha.2 hs
      simp only at h
      split at h
      · rename_i hc
        cases h
        refine ⟨by simp, hc.1, fun y hy hp => ?_⟩
        rcases List.mem_cons.1 hy with rfl | hy
        · exact .inl rfl
        · rcases ih.best y hy hp with rfl | h2
          · exact .inr hc.2
          · exact .inr (befC_trans hc.2 h2)
      · rename_i hc
        cases h
        refine ⟨by simp [ih.mem], ih.ok, fun y hy hp => ?_⟩
        rcases List.mem_cons.1 hy with rfl | hy
        · have hne : y.node ≠ x.node := by have := ha.1 x ih.mem; omega
          rcases befC_total (rk := rk) hne with h2 | h2
          · exact absurd ⟨hp, h2⟩ hc
          · exact .inr h2
        · exact ih.best y hy hp
theorem BestC.uniq {rk : Int → Int} {l : List Mb} {p : Mb → Bool} {x y : Mb} (h1 : BestC rk l p x) (h2 : BestC rk l p y) : x = y := by
  rcases h1.best y h2.mem h2.ok with h | h
  · exact h.symm
  · rcases h2.best x h1.mem h1.ok with h' | h'
    · exact h'
    · exact (befC_irrefl (befC_trans h h')).elim
/-- The first of the sorted ones. -/
theorem selC_sorted {rk : Int → Int} {l s : List Mb} (ha : l.Pairwise (fun a b => a.node < b.node)) (hp : s.Perm l) (hs : s.Pairwise (befC rk)) (p : Mb → Bool) : s.find? p = selC rk l p := by
  cases h : s.find? p with
  | none =>
    cases h2 : selC rk l p with
    | none => rfl
    | some x =>
      have b := selC_some ha h2
      have := List.find?_eq_none.1 h x (hp.mem_iff.2 b.mem)
      exact absurd b.ok this
  | some y =>
    obtain ⟨hy, A, B, he, hA⟩ := List.find?_eq_some_iff_append.1 h
    have by_ : BestC rk l p y := ⟨hp.mem_iff.1 (by rw [he]; simp), hy, fun z hz hpz => by
      have hz2 := hp.mem_iff.2 hz
      rw [he] at hz2 hs
      rcases List.mem_append.1 hz2 with hz3 | hz3
      · have := hA z hz3; rw [hpz] at this; cases this
      · rcases List.mem_cons.1 hz3 with rfl | hz4
        · exact .inl rfl
        · exact .inr ((List.pairwise_cons.1 (List.pairwise_append.1 hs).2.1).1 z hz4)⟩
    cases h2 : selC rk l p with
    | none => have := selC_none h2 y by_.mem; rw [hy] at this; cases this
    | some x => rw [(selC_some ha h2).uniq by_]

def hasI (xs : List Int) (n : Int) : Bool := xs.contains n
/-- Not yet a holder; not in a region of a holder. -/
def freeC (out : List Int) (m : Mb) : Bool := !out.contains m.node
def usedC (l : List Mb) (out : List Int) (r : Int) : Bool := l.any (fun y => out.contains y.node && decide (y.region = r))
def awayC (l : List Mb) (out : List Int) (m : Mb) : Bool := !usedC l out m.region
def nextC (rk : Int → Int) (l : List Mb) (out : List Int) : Option Mb := match selC rk l (fun m => freeC out m && awayC l out m) with
  | some x => some x
  | none => selC rk l (freeC out)
def stepC (rk : Int → Int) (l : List Mb) (out : List Int) : List Int := match nextC rk l out with
  | some x => out ++ [x.node]
  | none => out
def holdC (rk : Int → Int) (l : List Mb) (o : Int) : Nat → List Int
  | 0 => [o]
  | n + 1 => stepC rk l (holdC rk l o n)
theorem nextC_spec {rk : Int → Int} {l : List Mb} {out : List Int} (ha : l.Pairwise (fun a b => a.node < b.node)) {x : Mb} (h : nextC rk l out = some x) : x ∈ l ∧ x.node ∉ out := by
  unfold nextC at h
  split at h
  · rename_i y hy
    cases h
    have b := selC_some ha hy
    have := b.ok
    simp only [Bool.and_eq_true] at this
    exact ⟨b.mem, by simpa [freeC] using this.1⟩
  · have b := selC_some ha h
    exact ⟨b.mem, by simpa [freeC] using b.ok⟩
theorem nextC_none {rk : Int → Int} {l : List Mb} {out : List Int} (h : nextC rk l out = none) : ∀ m ∈ l, m.node ∈ out := by
  unfold nextC at h
  split at h
  · cases h
  · intro m hm
    have := selC_none h m hm
    simpa [freeC] using this

/-- What holders are. -/
structure HoldC (l : List Mb) (o : Int) (n : Nat) (out : List Int) : Prop where
  nd : out.Nodup
  mem : ∀ x ∈ out, x ∈ l.map Mb.node
  hd : ∃ t, out = o :: t
  len : out.length = min (n + 1) l.length

theorem map_nodup {l : List Mb} (ha : l.Pairwise (fun a b => a.node < b.node)) : (l.map Mb.node).Nodup := by
  rw [List.nodup_iff_pairwise_ne]
  rw [List.pairwise_map]
  exact ha.imp (fun h => by omega)
theorem nodup_sub_len : ∀ {a b : List Int}, a.Nodup → (∀ x ∈ a, x ∈ b) → a.length ≤ b.length
  | [], b, _, _ => by simp
  | x :: a, b, h, hs => by
    rw [List.nodup_cons] at h
    have hx := hs x (by simp)
    have := nodup_sub_len (b := b.erase x) h.2 (fun y hy => (List.mem_erase_of_ne (fun e => by subst e; exact h.1 hy)).2 (hs y (by simp [hy])))
    rw [List.length_erase_of_mem hx] at this
    have hb : 0 < b.length := List.length_pos_of_mem hx
    simp only [List.length_cons]
    omega
theorem holdC_ok {rk : Int → Int} {l : List Mb} {o : Int} (ha : l.Pairwise (fun a b => a.node < b.node)) (ho : o ∈ l.map Mb.node) : ∀ n, HoldC l o n (holdC rk l o n)
  | 0 => ⟨by simp [holdC], by simpa [holdC] using ho, ⟨[], rfl⟩, by
      have : 0 < l.length := by have := List.length_pos_of_mem ho; simpa using this
      simp only [holdC, List.length_cons, List.length_nil]; omega⟩
  | n + 1 => by
    have ih := holdC_ok (rk := rk) ha ho n
    show HoldC l o (n + 1) (stepC rk l (holdC rk l o n))
    unfold stepC
    generalize holdC rk l o n = out at *
    cases h : nextC rk l out with
    | none =>
      have hf := nextC_none h
      have h1 := nodup_sub_len (map_nodup ha) (fun x hx => by obtain ⟨m, hm, rfl⟩ := List.mem_map.1 hx; exact hf m hm)
      rw [List.length_map] at h1
      have := ih.len
      exact ⟨ih.nd, ih.mem, ih.hd, by show out.length = _; omega⟩
    | some x =>
      obtain ⟨h1, h2⟩ := nextC_spec ha h
      have hnd : (out ++ [x.node]).Nodup := by
        rw [List.nodup_append]
        exact ⟨ih.nd, by simp, fun a hy b hb e => by rw [List.mem_singleton] at hb; subst hb; subst e; exact h2 hy⟩
      have hmem : ∀ y ∈ out ++ [x.node], y ∈ l.map Mb.node := fun y hy => by
        rcases List.mem_append.1 hy with hy | hy
        · exact ih.mem y hy
        · rw [List.mem_singleton] at hy; rw [hy]; exact List.mem_map_of_mem h1
      obtain ⟨t, ht⟩ := ih.hd
      refine ⟨hnd, hmem, ⟨t ++ [x.node], by rw [ht]; rfl⟩, ?_⟩
      have h3 := nodup_sub_len hnd hmem
      rw [List.length_map, List.length_append, List.length_singleton] at h3
      have := ih.len
      show (out ++ [x.node]).length = _
      rw [List.length_append, List.length_singleton]
      omega
/-- How many members are holders. -/
theorem hold_count {l : List Mb} {o : Int} {n : Nat} {out : List Int} (h : HoldC l o n out) (ha : l.Pairwise (fun a b => a.node < b.node)) : (l.filter (fun m => out.contains m.node)).length = out.length := by
  have e1 : (l.filter (fun m => out.contains m.node)).length = ((l.map Mb.node).filter (fun x => out.contains x)).length := by
    rw [List.filter_map, List.length_map]
    rfl
  rw [e1]
  have hnd : ((l.map Mb.node).filter (fun x => out.contains x)).Nodup := (map_nodup ha).filter _
  apply Nat.le_antisymm
  · exact nodup_sub_len hnd (fun x hx => by have := (List.mem_filter.1 hx).2; simpa using this)
  · exact nodup_sub_len h.nd (fun x hx => List.mem_filter.2 ⟨h.mem x hx, by simpa using hx⟩)
theorem holdC_pre (rk : Int → Int) (l : List Mb) (o : Int) (n : Nat) : ∃ t, holdC rk l o (n + 1) = holdC rk l o n ++ t := by
  show ∃ t, stepC rk l (holdC rk l o n) = _
  unfold stepC
  cases nextC rk l (holdC rk l o n) with
  | none => exact ⟨[], by simp⟩
  | some x => exact ⟨[x.node], rfl⟩
end Go.Proofs.YtplkmbfeeegaiaaGreatDoor

/-
  Candidates: their order; their sort.
-/
namespace Go.Proofs.YtplkmbfeeegaiaaGreatDoor
open Go.RowKit Go.Shelf
open Go.Sort (grow)

/-- A member with its rank. -/
structure Cd where
  m : Mb
  rank : Int
/-- A candidate as a value. -/
abbrev cdV (x : Cd) : Value := .agg #[.int .i64 x.m.node, .int .i64 x.m.region, .int .i64 x.m.weight, .int .i64 x.rank]
def encCd (x : Cd) : List Value := [.int .i64 x.m.node, .int .i64 x.m.region, .int .i64 x.m.weight, .int .i64 x.rank]
def cmpC (x y : Cd) : Int := orL [cmpI y.rank x.rank, cmpI x.m.node y.m.node]
theorem four_cell (W : World) (x y z u : Value) (t : TypeId) : (W.alloc (.cells #[x, y, z, u] t)).cell? ⟨W.heap.size, 0, none⟩ = some x ∧ (W.alloc (.cells #[x, y, z, u] t)).cell? ⟨W.heap.size, 1, none⟩ = some y ∧ (W.alloc (.cells #[x, y, z, u] t)).cell? ⟨W.heap.size, 2, none⟩ = some z ∧ (W.alloc (.cells #[x, y, z, u] t)).cell? ⟨W.heap.size, 3, none⟩ = some u ∧ ∀ o, (W.alloc (.cells #[x, y, z, u] t)).frozen? ⟨W.heap.size, o, none⟩ = false := by
  have hh : (W.alloc (.cells #[x, y, z, u] t)).heap[W.heap.size]? = some (.cells #[x, y, z, u] t) := World.alloc_heap_new _ _
  refine ⟨?_, ?_, ?_, ?_, fun o => ?_⟩
  · unfold World.cell?; simp only [hh]; rfl
  · unfold World.cell?; simp only [hh]; rfl
  · unfold World.cell?; simp only [hh]; rfl
  · unfold World.cell?; simp only [hh]; rfl
  · unfold World.frozen?; simp only [hh]; simp

set_option maxRecDepth 100000 in
set_option maxHeartbeats 2000000 in
theorem beforeC_any (x y : Cd) (W : World) : Calls Tryz.prog 116 #[cdV x, cdV y] W fun e w' => e = .returned (.int .i64 (cmpC x y)) ∧ ∃ q os', w' = grow (W.drewN q) os' := by
  obtain ⟨⟨x0, x1, x2⟩, x3⟩ := x
  obtain ⟨⟨y0, y1, y2⟩, y3⟩ := y
  have t1 := four_cell W (.int .i64 x0) (.int .i64 x1) (.int .i64 x2) (.int .i64 x3) 150
  have t2 := four_cell (W.alloc (.cells #[.int .i64 x0, .int .i64 x1, .int .i64 x2, .int .i64 x3] 150)) (.int .i64 y0) (.int .i64 y1) (.int .i64 y2) (.int .i64 y3) 150
  have k1 : Keep (fun _ => False) W (W.alloc (.cells #[.int .i64 x0, .int .i64 x1, .int .i64 x2, .int .i64 x3] 150)) := (Keep.refl _ W).alloc _
  have k2 : Keep (fun _ => False) (W.alloc (.cells #[.int .i64 x0, .int .i64 x1, .int .i64 x2, .int .i64 x3] 150)) ((W.alloc (.cells #[.int .i64 x0, .int .i64 x1, .int .i64 x2, .int .i64 x3] 150)).alloc (.cells #[.int .i64 y0, .int .i64 y1, .int .i64 y2, .int .i64 y3] 150)) := (Keep.refl _ _).alloc _
  have HX := Lib.hid (And.intro (k2.cell t1.1 (fun h => h)) (k2.cell t1.2.2.2.1 (fun h => h)))
  have HY := Lib.hid (And.intro t2.1 t2.2.2.2.1)
  have HK := Lib.hid (k1.trans k2)
  have HD : Hid (W.drawn ≤ ((W.alloc (.cells #[.int .i64 x0, .int .i64 x1, .int .i64 x2, .int .i64 x3] 150)).alloc (.cells #[.int .i64 y0, .int .i64 y1, .int .i64 y2, .int .i64 y3] 150)).drawn) := Lib.hid (Nat.le_refl _)
  rw [World.size_alloc] at HY
  have HC : Hid (cmpC ⟨⟨x0, x1, x2⟩, x3⟩ ⟨⟨y0, y1, y2⟩, y3⟩ = orL [cmpI y3 x3, cmpI x0 y0]) := Lib.hid rfl
  clear t1 t2 k1 k2
  go_enter Tryz.func116, Tryz.ntmps116
  go_wp2_with fail
  generalize (W.alloc (.cells #[.int .i64 x0, .int .i64 x1, .int .i64 x2, .int .i64 x3] 150)).alloc (.cells #[.int .i64 y0, .int .i64 y1, .int .i64 y2, .int .i64 y3] 150) = W1 at *
  generalize W.heap.size = z at *
  have a0 : ∀ p : KA (fun _ => False) W1, p.val.cell? ⟨z, 0, none⟩ = some (.int .i64 x0) := fun p => p.k.cell HX.out.1 (fun h => h)
  have a3 : ∀ p : KA (fun _ => False) W1, p.val.cell? ⟨z, 3, none⟩ = some (.int .i64 x3) := fun p => p.k.cell HX.out.2 (fun h => h)
  have b0 : ∀ p : KA (fun _ => False) W1, p.val.cell? ⟨z + 1, 0, none⟩ = some (.int .i64 y0) := fun p => p.k.cell HY.out.1 (fun h => h)
  have b3 : ∀ p : KA (fun _ => False) W1, p.val.cell? ⟨z + 1, 3, none⟩ = some (.int .i64 y3) := fun p => p.k.cell HY.out.2 (fun h => h)
  refine wp_region_walk [(true, 0), (true, 1), (true, 2), (true, 3), (true, 5), (true, 6), (true, 7), (true, 8), (true, 9), (true, 10), (false, 4), (false, 11), (false, 12), (false, 13), (false, 14)] (inKA (fun _ => False) W1) (by kernel_rfl) (by kernel_rfl) ?_
  iterate 10 (refine walkW_read rfl (fun K hK => ?_); go_simp; refine hK _ ?_; clear hK K)
  clear a0 a3 b0 b3
  have HK1 : Hid (Keep (fun _ => False) W1 W1.drew) := Lib.hid (Keep.refl _ W1).drew
  refine walkW_do rfl (inKA.of HK1.out) (fun K hK => ?_)
  go_simp
  refine (cmp_int y3 x3 _).mono ?_
  rintro e w' ⟨rfl, rfl⟩
  refine hK _ _ ?_; clear hK K
  refine walkW_do rfl (inKA.of HK1.out) (fun K hK => ?_)
  go_simp
  refine (cmp_int x0 y0 _).mono ?_
  rintro e w' ⟨rfl, rfl⟩
  refine hK _ _ ?_; clear hK K
  have q0 := cmpI_bd y3 x3
  have q1 := cmpI_bd x0 y0
  generalize cmpI y3 x3 = m0 at *
  generalize cmpI x0 y0 = m1 at *
  refine walkW_do rfl (inKA.of HK1.out) (fun K hK => ?_)
  go_simp
  refine hK _ _ ?_; clear hK K
  have HI : Hid (Its (W1.alloc (.cells #[.int .i64 m0, .int .i64 m1] 3)).drew (.slice (some ⟨W1.heap.size, 0, none⟩) 2 2) [m0, m1]) := Lib.hid (by
    have hh : (W1.alloc (.cells #[.int .i64 m0, .int .i64 m1] 3)).heap[W1.heap.size]? = some (.cells #[.int .i64 m0, .int .i64 m1] 3) := World.alloc_heap_new _ _
    refine ⟨by simp, ?_, some ⟨W1.heap.size, 0, none⟩, 2, W1.heap.size, 0, rfl, by simp, fun _ => rfl, fun j x hj => ?_⟩
    · intro x hx
      simp only [List.mem_cons, List.not_mem_nil, or_false] at hx
      rcases hx with rfl | rfl <;> assumption
    · show (W1.alloc (.cells #[.int .i64 m0, .int .i64 m1] 3)).cell? _ = _
      rcases j with _ | _ | j
      · simp at hj; subst hj; unfold World.cell?; simp only [hh]; rfl
      · simp at hj; subst hj; unfold World.cell?; simp only [hh]; rfl
      · simp at hj)
  have HK2 : Hid (Keep (fun _ => False) W1 (W1.alloc (.cells #[.int .i64 m0, .int .i64 m1] 3)).drew) := Lib.hid ((Keep.refl _ W1).alloc _).drew
  have HD2 : Hid (W.drawn ≤ (W1.alloc (.cells #[.int .i64 m0, .int .i64 m1] 3)).drew.drawn) := Lib.hid (Nat.le_succ_of_le HD.out)
  generalize (W1.alloc (.cells #[.int .i64 m0, .int .i64 m1] 3)).drew = W2 at *
  refine walkW_do rfl (inKA.of HK2.out) (fun K hK => ?_)
  go_simp
  refine (cmp_or _ [m0, m1] _ HI.out).mono ?_
  rintro e w' ⟨rfl, rfl⟩
  refine hK _ _ ?_; clear hK K
  refine walkW_do rfl (inKA.of HK2.out) (fun K hK => ?_)
  go_simp
  refine hK _ _ ?_; clear hK K
  refine ⟨inKA.of HK2.out, ?_⟩
  go_wp2_with fail
  go_ret
  exact ⟨by rw [HC.out]; rfl, grow_of_keep (HK.out.trans HK2.out) HD2.out⟩

def ltCd (x y : Cd) : Prop := y.rank < x.rank ∨ (x.rank = y.rank ∧ x.m.node < y.m.node)
instance (x y : Cd) : Decidable (ltCd x y) := inferInstanceAs (Decidable (_ ∨ _))
theorem cmpC_neg (x y : Cd) : cmpC x y < 0 ↔ ltCd x y := by
  unfold cmpC ltCd
  have c : ∀ a b : Int, (a < b ∧ cmpI a b = -1) ∨ (a = b ∧ cmpI a b = 0) ∨ (b < a ∧ cmpI a b = 1) := fun a b => by
    unfold cmpI
    rcases Int.lt_trichotomy a b with h | h | h
    · exact .inl ⟨h, by rw [if_pos h]⟩
    · exact .inr (.inl ⟨h, by rw [if_neg (by omega), if_neg (by omega)]⟩)
    · exact .inr (.inr ⟨h, by rw [if_neg (by omega), if_pos h]⟩)
  simp only [orL]
  rcases c y.rank x.rank with ⟨h1, e1⟩ | ⟨h1, e1⟩ | ⟨h1, e1⟩
  · rw [e1, if_neg (by omega)]; omega
  · rw [e1, if_pos rfl]
    rcases c x.m.node y.m.node with ⟨h2, e2⟩ | ⟨h2, e2⟩ | ⟨h2, e2⟩
    · rw [e2, if_neg (by omega)]; omega
    · rw [e2, if_pos rfl]; omega
    · rw [e2, if_neg (by omega)]; omega
  · rw [e1, if_neg (by omega)]; omega
theorem cmpC_lt (x y : Cd) : Go.Proofs.ltOf cmpC x y = decide (ltCd x y) := by
  unfold Go.Proofs.ltOf
  exact decide_eq_decide.2 (cmpC_neg x y)
theorem swoC : Go.Sort.SWO (Go.Proofs.ltOf cmpC) where
  irrefl x := by rw [cmpC_lt]; exact decide_eq_false (by unfold ltCd; omega)
  trans x y z h1 h2 := by rw [cmpC_lt, decide_eq_true_eq] at *; unfold ltCd at *; omega
  ntrans x y z h1 h2 := by rw [cmpC_lt, decide_eq_false_iff_not] at *; unfold ltCd at *; omega
instance : Inhabited Cd := ⟨⟨⟨0, 0, 0⟩, 0⟩⟩

theorem cmpLaysC (blk off size : Nat) (w : World) : Go.Proofs.CmpLays Tryz.prog 116 #[] encCd 4 cmpC blk off size w := fun _ _ _ _ x y => beforeC_any x y _

open Go.Sort in
set_option maxRecDepth 100000 in
set_option maxHeartbeats 2000000 in
theorem sortCands (blk off cap : Nat) (d : Array Cd) (w : World) (hH : Go.Sort.HoldsK encCd 4 w blk off d) (hblk : blk < w.heap.size) (hsz : d.size < 1000000) :
    Calls Tryz.prog 115 #[.slice (some ⟨blk, off, none⟩) d.size cap, .func (.func 116) #[] #[]] w fun e w' =>
      e = .returned (.tuple #[]) ∧ ∃ d' n os, PermIn 0 d.size d d' ∧ SortedIn (Go.Proofs.ltOf cmpC) 0 d.size d' ∧ w' = Go.Proofs.sortWorldK encCd 4 w blk off n d' os := by
  have eg : ∀ args w, (callFunc 116 args).run Tryz.prog w = .ok (.enter 116 args) w := enters_of Tryz.func116 (by kernel_rfl) rfl
  have hlim : Lib.bitLen d.size < 4611686018427387904 := Nat.lt_of_le_of_lt (Lib.bitLen_le d.size 62 (by omega) (by omega)) (by omega)
  have hp := Go.Proofs.AnyQ.pdqsortCmpFunc_all (P := Tryz.prog) Tryz.pdqCand 4 Tryz.isAgg150 Tryz.sizeOf150 encCd cmpC 116 #[] swoC blk off cap d w eg (cmpLaysC blk off d.size w) ⟨fun _ => rfl, fun x v hv => by simp [encCd] at hv; rcases hv with rfl | rfl | rfl | rfl <;> rfl, hH, hblk⟩ (d.size + 1) 0 d.size (Lib.bitLen d.size) d w (by omega) rfl (Go.Proofs.SWK.start hH) (Nat.zero_le _) (Nat.le_refl _) (by omega) hlim (Or.inl rfl)
  have hl : Calls Tryz.prog 135 #[.int .u64 (d.size : Int)] w fun e w' => e = .returned (.int .i64 (Lib.bitLen d.size : Nat)) ∧ w' = w := by
    have h := Go.Proofs.Any.bits_Len (Go.Proofs.SlLaysF0.n15.bits Tryz.bitsLen) (d.size : Int) w (by omega) (by omega)
    rwa [Int.toNat_natCast] at h
  change Calls Tryz.prog 137 _ _ _ at hp
  have hsorts := Go.Sort.pdq_sorts (Go.Proofs.ltOf cmpC) swoC d 0 d.size (Lib.bitLen d.size) true true (Nat.zero_le _) (Nat.le_refl _) (Or.inl rfl)
  generalize Go.Sort.pdq (Go.Proofs.ltOf cmpC) d 0 d.size (Lib.bitLen d.size) true true = r at *
  generalize Lib.bitLen d.size = bl at *
  obtain ⟨n, hn⟩ : ∃ n, d.size = n := ⟨_, rfl⟩
  rw [hn] at hp hl hsorts hsz ⊢
  rw [show ((0 : Nat) : Int) = 0 from rfl] at hp
  have wr : IntKind.u64.wrap (n : Int) = n := by simp [IntKind.wrap, IntKind.bits, IntKind.signed]; omega
  have HP := Lib.hid hp
  have HL := Lib.hid hl
  have HS := Lib.hid hsorts
  clear hp hl hsorts hH eg hn
  go_enter Tryz.func115, Tryz.ntmps115
  go_wp2_with fail
  with_reducible refine HL.out.mono ?_
  rintro e w' ⟨rfl, rfl⟩
  go_wp2_with fail
  with_reducible refine HP.out.mono ?_
  rintro e w' ⟨rfl, m, os, rfl⟩
  go_wp2_with fail
  go_end0
  exact ⟨rfl, r, m, os, HS.out.1, HS.out.2, rfl⟩
end Go.Proofs.YtplkmbfeeegaiaaGreatDoor

/-
  slices.Contains; what the choice of holders asks of a candidate; first.
-/
namespace Go.Proofs.YtplkmbfeeegaiaaGreatDoor
open Go.RowKit Go.Shelf

/-- r is a place, if b. -/
def IdxC (b : Bool) (r : Int) : Prop := decide (0 ≤ r) = b

set_option maxRecDepth 100000 in
set_option maxHeartbeats 1000000 in
theorem index_any (v : Value) (xs : List Int) (n : Int) (w : World) (h : Its w v xs) : Calls Tryz.prog 122 #[v, .int .i64 n] w fun e w' => (∃ r : Int, e = .returned (.int .i64 r) ∧ IdxC (hasI xs n) r) ∧ w = w' := by
  obtain ⟨hn, -, a, c, bb, off, rfl, hc, ha, hcell⟩ := h
  have HC := Lib.hid hcell
  have HA := Lib.hid ha
  have HL := Lib.hid (show xs.length = xs.length from rfl)
  clear hcell ha
  generalize hl : xs.length = ln at hc hn HA HL ⊢
  have HLN := Lib.hid hl
  clear hl HL
  go_enter Tryz.func122, Tryz.ntmps122
  go_wp2_with fail
  go_loopg [8] ln (fun gh v wr => ∃ k : Nat, gh + k = ln ∧ v = .int .i64 k ∧ Hid (∀ j x, j < k → xs[j]? = some x → x ≠ n) ∧ w = wr)
  case atStart => exact ⟨0, by omega, rfl, Lib.hid (fun j m h => by omega), rfl⟩
  case round =>
    obtain ⟨k, hk, rfl, HN, rfl⟩ := hrel
    by_cases hlt : k < ln
    · obtain ⟨x, hm⟩ : ∃ x, xs[k]? = some x := ⟨_, List.getElem?_eq_getElem (by have := HLN.out; omega)⟩
      obtain rfl := HA.out (by omega)
      have c0 := HC.out k x hm
      have HM := Lib.hid hm
      have hkz : (k : Int) < (ln : Int) := by omega
      have hk0 : (0 : Int) ≤ (k : Int) := by omega
      clear hm
      by_cases hx : n = x
      · have hb : (n == x) = true := by simpa using hx
        go_wp2_with fail
        go_ret
        exact ⟨⟨_, rfl, by unfold IdxC; unfold hasI; rw [decide_eq_true (by omega), eq_comm, List.contains_iff_mem]; exact List.mem_of_getElem? HM.out⟩, rfl⟩
      · have hb : (n == x) = false := by simpa using hx
        have HNN : Hid (∀ j m, j < k + 1 → xs[j]? = some m → m ≠ n) := Lib.hid (fun j m hj hm => by
          by_cases e : j = k
          · subst e
            rw [HM.out] at hm
            cases hm
            exact fun e => hx e.symm
          · exact HN.out j m (by omega) hm)
        go_wp2_with fail
        go_roundg (gk - 1)
        case rel => exact ⟨k + 1, by omega, by go_num, HNN, rfl⟩
        case measure => omega
    · have hkz : ¬ (k : Int) < (ln : Int) := by omega
      have HF : Hid (hasI xs n = false) := Lib.hid (by
        unfold hasI
        rw [← Bool.not_eq_true, List.contains_iff_mem]
        intro hm
        obtain ⟨j, hj⟩ := List.mem_iff_getElem?.1 hm
        exact HN.out j n (by have := (List.getElem?_eq_some_iff.1 hj).1; have := HLN.out; omega) hj rfl)
      go_wp2_with fail
      go_ret
      exact ⟨⟨-1, rfl, by unfold IdxC; rw [HF.out]; rfl⟩, rfl⟩
set_option maxRecDepth 100000 in
theorem contains_any (v : Value) (xs : List Int) (n : Int) (w : World) (h : Its w v xs) : Calls Tryz.prog 84 #[v, .int .i64 n] w fun e w' => e = .returned (.bool (hasI xs n)) ∧ w = w' := by
  have HI := Lib.hid (index_any v xs n w h)
  clear h
  go_enter Tryz.func84, Tryz.ntmps84
  go_wp2_with fail
  with_reducible refine HI.out.mono ?_
  rintro e W1 ⟨⟨r, rfl, hr⟩, rfl⟩
  have HR := Lib.hid hr
  clear hr
  go_wp2_with fail
  go_ret
  exact ⟨by have := HR.out; unfold IdxC at this; rw [← this] <;> rfl, rfl⟩

/-- A map from numbers to truth values. -/
def MapB (w : World) (bm : Nat) (g : Int → Bool) : Prop := ∃ R, MapRel Tryz.prog 3 w bm R ∧ (∀ k v, R k v → ∃ n, k = .int .i64 n ∧ v = .bool (g n)) ∧ ∀ n, g n = true → R (.int .i64 n) (.bool (g n))
theorem MapB.of_heap {w w' : World} {bm : Nat} {g : Int → Bool} (h : MapB w bm g) (hh : w'.heap[bm]? = w.heap[bm]?) : MapB w' bm g := by
  obtain ⟨R, h1, h2, h3⟩ := h
  exact ⟨R, h1.of_heap hh, h2, h3⟩
theorem MapB.lt {w : World} {bm : Nat} {g : Int → Bool} (h : MapB w bm g) : bm < w.heap.size := by obtain ⟨R, h1, _⟩ := h; exact h1.lt
theorem MapB.keep {w w' : World} {bm : Nat} {g : Int → Bool} {A : Nat → Prop} (h : MapB w bm g) (k : Keep A w w') (hA : ¬ A bm) : MapB w' bm g := h.of_heap (k.block _ h.lt hA)
theorem MapB.kept {w w' : World} {bm : Nat} {g : Int → Bool} (h : MapB w bm g) (k : Keep (fun _ => False) w w') : MapB w' bm g := h.keep k (fun h => h)
theorem MapB.made (w : World) : MapB (w.alloc (.map #[] 0)) w.heap.size (fun _ => false) := ⟨_, MapRel.made _ _ w, fun _ _ h => h.elim, fun _ h => by cases h⟩
theorem zeroBool (w : World) : (zeroValue 4).run Tryz.prog w = .ok (.bool false) w := by kernel_rfl
theorem MapB.look {w : World} {bm : Nat} {g : Int → Bool} (h : MapB w bm g) {n : Int} (hn : I64 n) : (Instr.lookup 148 (.map (some bm)) (.int .i64 n) false).run Tryz.prog w = .ok (.bool (g n)) w := by
  obtain ⟨R, h1, h2, h3⟩ := h
  rcases h1.look intKeyed Tryz.underlying148 (zeroBool w) false (keyInt hn) with ⟨g1, g2⟩ | ⟨v, g1, g2⟩
  · have : g n = false := by
      cases hg : g n with
      | false => rfl
      | true => exact absurd (h3 n hg) (g1 _)
    rw [this]; exact g2
  · obtain ⟨n', e1, rfl⟩ := h2 _ _ g1
    cases e1
    exact g2
theorem MapB.update {w : World} {bm : Nat} {g : Int → Bool} (h : MapB w bm g) {n : Int} (hn : I64 n) : ∃ es' clock', (Instr.mapUpdate 148 (.map (some bm)) (.int .i64 n) (.bool true)).run Tryz.prog w = .ok () (w.putObj bm (.map es' clock')) ∧ MapB (w.putObj bm (.map es' clock')) bm (fun m => g m || decide (m = n)) := by
  obtain ⟨R, h1, h2, h3⟩ := h
  obtain ⟨es', clock', g1, g2⟩ := h1.update intKeyed Tryz.underlying148 (keyInt hn) (.bool true)
  refine ⟨es', clock', g1, _, g2, fun k v hk => ?_, fun m hm => ?_⟩
  · rcases hk with ⟨rfl, rfl⟩ | ⟨hne, hk⟩
    · exact ⟨n, rfl, by simp⟩
    · obtain ⟨m, rfl, rfl⟩ := h2 _ _ hk
      have : m ≠ n := fun e => hne (by rw [e])
      exact ⟨m, rfl, by simp [this]⟩
  · by_cases e : m = n
    · subst e
      exact .inl ⟨rfl, by simp⟩
    · have hg : g m = true := by simpa [e] using hm
      refine .inr ⟨fun h => e (by injection h), ?_⟩
      have := h3 m hg
      rw [hg] at this
      simpa [hg] using this

/-- The two boxes that the conditions read: the holders so far, and their regions. -/
structure Hs (W : World) (bo br : Nat) (out : List Int) (g : Int → Bool) : Prop where
  o : ∃ vo, W.cell? ⟨bo, 0, none⟩ = some vo ∧ Its W vo out
  r : ∃ bm, W.cell? ⟨br, 0, none⟩ = some (.map (some bm)) ∧ MapB W bm g
theorem Hs.kept {W W' : World} {bo br : Nat} {out : List Int} {g : Int → Bool} (h : Hs W bo br out g) (k : Keep (fun _ => False) W W') : Hs W' bo br out g := by
  obtain ⟨⟨vo, h1, h2⟩, bm, h3, h4⟩ := h
  exact ⟨⟨vo, k.cell h1 (fun h => h), h2.kept k⟩, bm, k.cell h3 (fun h => h), h4.kept k⟩

set_option maxRecDepth 100000 in
theorem free_any {bo br : Nat} {out : List Int} {g : Int → Bool} (c : Cd) (w : World) (h : Hs w bo br out g) : Calls Tryz.prog 117 #[cdV c, ptr bo] w fun e w' => e = .returned (.bool (!hasI out c.m.node)) ∧ Keep (fun _ => False) w w' := by
  obtain ⟨⟨x, y, z⟩, u⟩ := c
  change Calls Tryz.prog 117 #[.agg #[.int .i64 x, .int .i64 y, .int .i64 z, .int .i64 u], ptr bo] w fun e w' => e = .returned (.bool (!hasI out x)) ∧ Keep (fun _ => False) w w'
  have HK : Hid (Keep (fun _ => False) w (w.alloc (.cells #[.int .i64 x, .int .i64 y, .int .i64 z, .int .i64 u] 150))) := Lib.hid ((Keep.refl _ w).alloc _)
  have HB := Lib.hid (four_cell w (.int .i64 x) (.int .i64 y) (.int .i64 z) (.int .i64 u) 150)
  obtain ⟨vo, h1, h2⟩ := (h.kept HK.out).o
  have HI := Lib.hid (contains_any vo out x _ h2)
  clear h h2
  generalize hasI out x = ct at *
  go_enter Tryz.func117, Tryz.ntmps117
  go_upto_region 1 with (fail)
  generalize w.alloc (.cells #[.int .i64 x, .int .i64 y, .int .i64 z, .int .i64 u] 150) = W at *
  obtain ⟨b0, -, -, -, -⟩ := HB.out
  go_wp2_with fail
  with_reducible refine HI.out.mono ?_
  rintro e w' ⟨rfl, rfl⟩
  go_wp2_with fail
  go_ret
  exact ⟨rfl, HK.out⟩
set_option maxRecDepth 100000 in
theorem away_any {bo br : Nat} {out : List Int} {g : Int → Bool} (c : Cd) (hc : I64 c.m.region) (w : World) (h : Hs w bo br out g) : Calls Tryz.prog 118 #[cdV c, ptr br] w fun e w' => e = .returned (.bool (!g c.m.region)) ∧ Keep (fun _ => False) w w' := by
  obtain ⟨⟨x, y, z⟩, u⟩ := c
  change Calls Tryz.prog 118 #[.agg #[.int .i64 x, .int .i64 y, .int .i64 z, .int .i64 u], ptr br] w fun e w' => e = .returned (.bool (!g y)) ∧ Keep (fun _ => False) w w'
  have HK : Hid (Keep (fun _ => False) w (w.alloc (.cells #[.int .i64 x, .int .i64 y, .int .i64 z, .int .i64 u] 150))) := Lib.hid ((Keep.refl _ w).alloc _)
  have HB := Lib.hid (four_cell w (.int .i64 x) (.int .i64 y) (.int .i64 z) (.int .i64 u) 150)
  obtain ⟨bm, h1, h2⟩ := (h.kept HK.out).r
  have hlook : (Instr.lookup 148 (.map (some bm)) (.int .i64 y) false).run Tryz.prog _ = _ := h2.look (n := y) hc
  clear h h2 hc
  generalize g y = gy at *
  go_enter Tryz.func118, Tryz.ntmps118
  go_upto_region 1 with (fail)
  generalize w.alloc (.cells #[.int .i64 x, .int .i64 y, .int .i64 z, .int .i64 u] 150) = W at *
  obtain ⟨-, b1, -, -, -⟩ := HB.out
  go_wp2_with fail
  go_ret
  exact ⟨rfl, HK.out⟩

/-- Conditions as values. -/
abbrev condV (bo br : Nat) (b : Bool) : Value := match b with
  | true => .func (.func 117) #[] #[ptr bo]
  | false => .func (.func 118) #[] #[ptr br]
def condB (out : List Int) (g : Int → Bool) (b : Bool) (m : Mb) : Bool := match b with
  | true => !hasI out m.node
  | false => !g m.region
/-- A candidate in a box. -/
def CdAt (W : World) (bc : Nat) (c : Cd) : Prop := W.cell? ⟨bc, 0, none⟩ = some (.int .i64 c.m.node) ∧ W.cell? ⟨bc, 1, none⟩ = some (.int .i64 c.m.region) ∧ W.cell? ⟨bc, 2, none⟩ = some (.int .i64 c.m.weight) ∧ W.cell? ⟨bc, 3, none⟩ = some (.int .i64 c.rank)
theorem CdAt.kept {W W' : World} {bc : Nat} {c : Cd} (h : CdAt W bc c) (k : Keep (fun _ => False) W W') : CdAt W' bc c := ⟨k.cell h.1 (fun h => h), k.cell h.2.1 (fun h => h), k.cell h.2.2.1 (fun h => h), k.cell h.2.2.2 (fun h => h)⟩

set_option maxRecDepth 100000 in
theorem first1_any {bo br bc : Nat} {out : List Int} {g : Int → Bool} (b : Bool) (c : Cd) (hc : I64 c.m.region) (w : World) (h : Hs w bo br out g) (hb : CdAt w bc c) : Calls Tryz.prog 139 #[condV bo br b, ptr bc] w fun e w' => e = .returned (.bool (!condB out g b c.m)) ∧ Keep (fun _ => False) w w' := by
  have HF := Lib.hid (free_any c w h)
  have HA := Lib.hid (away_any c hc w h)
  obtain ⟨⟨x, y, z⟩, u⟩ := c
  obtain ⟨b0, b1, b2, b3⟩ := hb
  simp only [] at b0 b1 b2 b3
  clear h hc
  cases b with
  | true =>
    have hcb : condB out g true ⟨x, y, z⟩ = !hasI out x := rfl
    have HF2 : Hid (Calls Tryz.prog 117 #[.agg #[.int .i64 x, .int .i64 y, .int .i64 z, .int .i64 u], ptr bo] w fun e w' => e = .returned (.bool (condB out g true ⟨x, y, z⟩)) ∧ Keep (fun _ => False) w w') := HF
    clear HF HA hcb
    simp only []
    generalize condB out g true ⟨x, y, z⟩ = ct at *
    go_enter Tryz.func139, Tryz.ntmps139
    go_wp2_with fail
    refine HF2.out.mono ?_
    rintro e w' ⟨rfl, k⟩
    have HK := Lib.hid k
    clear k
    go_wp2_with fail
    go_ret
    exact ⟨rfl, HK.out⟩
  | false =>
    have HA2 : Hid (Calls Tryz.prog 118 #[.agg #[.int .i64 x, .int .i64 y, .int .i64 z, .int .i64 u], ptr br] w fun e w' => e = .returned (.bool (condB out g false ⟨x, y, z⟩)) ∧ Keep (fun _ => False) w w') := HA
    clear HF HA
    simp only []
    generalize condB out g false ⟨x, y, z⟩ = ct at *
    go_enter Tryz.func139, Tryz.ntmps139
    go_wp2_with fail
    refine HA2.out.mono ?_
    rintro e w' ⟨rfl, k⟩
    have HK := Lib.hid k
    clear k
    go_wp2_with fail
    go_ret
    exact ⟨rfl, HK.out⟩
end Go.Proofs.YtplkmbfeeegaiaaGreatDoor

/-
  The first candidate that meets all conditions.
-/
namespace Go.Proofs.YtplkmbfeeegaiaaGreatDoor
open Go.RowKit Go.Shelf

/-- Conditions in a slice. -/
def Cnds (W : World) (v : Value) (bo br : Nat) (cs : List Bool) : Prop := ∃ b c, v = .slice (some ⟨b, 0, none⟩) cs.length c ∧ cs.length ≤ c ∧ ∀ j x, cs[j]? = some x → W.cell? ⟨b, j, none⟩ = some (condV bo br x)
theorem Cnds.kept {W W' : World} {v : Value} {bo br : Nat} {cs : List Bool} (h : Cnds W v bo br cs) (k : Keep (fun _ => False) W W') : Cnds W' v bo br cs := by
  obtain ⟨b, c, rfl, hc, h1⟩ := h
  exact ⟨b, c, rfl, hc, fun j x hj => k.cell (h1 j x hj) (fun h => h)⟩

set_option maxRecDepth 100000 in
set_option maxHeartbeats 1000000 in
theorem indexC_any {bo br bc : Nat} {out : List Int} {g : Int → Bool} (v : Value) (cs : List Bool) (cd : Cd) (hcd : I64 cd.m.region) (w : World) (h : Hs w bo br out g) (hb : CdAt w bc cd) (hv : Cnds w v bo br cs) (hl : cs.length ≤ 10) : Calls Tryz.prog 170 #[v, .func (.func 139) #[] #[ptr bc]] w fun e w' => (∃ r : Int, e = .returned (.int .i64 r) ∧ IdxC (!cs.all (fun b => condB out g b cd.m)) r) ∧ Keep (fun _ => False) w w' := by
  obtain ⟨bb, c, rfl, hc, hcell⟩ := hv
  have HC := Lib.hid hcell
  have HH := Lib.hid h
  have HB := Lib.hid hb
  have HF : Hid (∀ (b : Bool) (wr : World), Keep (fun _ => False) w wr → Calls Tryz.prog 139 #[condV bo br b, ptr bc] wr fun e w' => e = .returned (.bool (!condB out g b cd.m)) ∧ Keep (fun _ => False) wr w') := Lib.hid (fun b wr k => first1_any b cd hcd wr (h.kept k) (hb.kept k))
  clear hcell h hb hcd
  obtain ⟨ln, hn'⟩ : ∃ n, cs.length = n := ⟨_, rfl⟩
  have HL := Lib.hid hn'
  rw [hn'] at hc hl ⊢
  clear hn'
  go_enter Tryz.func170, Tryz.ntmps170
  go_wp2_with fail
  go_loopg [8] ln (fun gh v wr => ∃ k : Nat, gh + k = ln ∧ v = .int .i64 k ∧ Hid (∀ j b, j < k → cs[j]? = some b → condB out g b cd.m = true) ∧ Keep (fun _ => False) w wr)
  case atStart => exact ⟨0, by omega, rfl, Lib.hid (fun j m h => by omega), Keep.refl _ _⟩
  case round =>
    obtain ⟨k, hk, rfl, HN, hkeep⟩ := hrel
    have HK := Lib.hid hkeep
    clear hkeep
    by_cases hlt : k < ln
    · obtain ⟨b, hm⟩ : ∃ b, cs[k]? = some b := ⟨_, List.getElem?_eq_getElem (by have := HL.out; omega)⟩
      have c0 := HK.out.cell (HC.out k b hm) (fun h => h)
      have HM := Lib.hid hm
      have hkz : (k : Int) < (ln : Int) := by omega
      have hk0 : (0 : Int) ≤ (k : Int) := by omega
      have HIS := Lib.hid (HF.out b wr HK.out)
      clear hm
      generalize condV bo br b = cv at *
      go_wp2_with fail
      clear c0
      refine HIS.out.mono ?_
      rintro e W2 ⟨rfl, k2⟩
      have HK2 := Lib.hid (HK.out.trans k2)
      clear k2 HIS
      cases hx : condB out g b cd.m with
      | false =>
        simp only [Bool.not_false]
        have HA : Hid ((!cs.all (fun b => condB out g b cd.m)) = true) := Lib.hid (by
          rw [Bool.not_eq_true']
          rw [← Bool.not_eq_true, List.all_eq_true]
          intro h
          have := h b (List.mem_of_getElem? HM.out)
          rw [hx] at this
          cases this)
        go_wp2_with fail
        go_ret
        exact ⟨⟨_, rfl, by unfold IdxC; rw [HA.out]; exact decide_eq_true (by omega)⟩, HK2.out⟩
      | true =>
        simp only [Bool.not_true]
        have HNN : Hid (∀ j b, j < k + 1 → cs[j]? = some b → condB out g b cd.m = true) := Lib.hid (fun j m hj hm => by
          by_cases e : j = k
          · subst e
            rw [HM.out] at hm
            cases hm
            exact hx
          · exact HN.out j m (by omega) hm)
        go_wp2_with fail
        go_roundg (gk - 1)
        case rel => exact ⟨k + 1, by omega, by go_num, HNN, HK2.out⟩
        case measure => omega
    · have hkz : ¬ (k : Int) < (ln : Int) := by omega
      have HA : Hid ((!cs.all (fun b => condB out g b cd.m)) = false) := Lib.hid (by
        rw [Bool.not_eq_false', List.all_eq_true]
        intro b hb
        obtain ⟨j, hj⟩ := List.mem_iff_getElem?.1 hb
        exact HN.out j b (by have := (List.getElem?_eq_some_iff.1 hj).1; have := HL.out; omega) hj)
      go_wp2_with fail
      go_ret
      exact ⟨⟨-1, rfl, by unfold IdxC; rw [HA.out]; rfl⟩, HK.out⟩
set_option maxRecDepth 100000 in
theorem containsC_any {bo br bc : Nat} {out : List Int} {g : Int → Bool} (v : Value) (cs : List Bool) (cd : Cd) (hcd : I64 cd.m.region) (w : World) (h : Hs w bo br out g) (hb : CdAt w bc cd) (hv : Cnds w v bo br cs) (hl : cs.length ≤ 10) : Calls Tryz.prog 138 #[v, .func (.func 139) #[] #[ptr bc]] w fun e w' => e = .returned (.bool (!cs.all (fun b => condB out g b cd.m))) ∧ Keep (fun _ => False) w w' := by
  have HI := Lib.hid (indexC_any v cs cd hcd w h hb hv hl)
  clear h hb hv hl hcd
  go_enter Tryz.func138, Tryz.ntmps138
  go_wp2_with fail
  with_reducible refine HI.out.mono ?_
  rintro e W1 ⟨⟨r, rfl, hr⟩, k⟩
  have HK := Lib.hid k
  have HR := Lib.hid hr
  clear k hr
  go_wp2_with fail
  go_ret
  exact ⟨by have := HR.out; unfold IdxC at this; rw [← this] <;> rfl, HK.out⟩

/-- Candidates in a slice. -/
structure Cds (W : World) (v : Value) (l : List Cd) : Prop where
  n : l.length ≤ 1000000
  bd : ∀ x ∈ l, I64 x.m.region
  at_ : ∃ a c b off, v = .slice a l.length c ∧ l.length ≤ c ∧ (0 < l.length → a = some ⟨b, off, none⟩) ∧ ∀ j x, l[j]? = some x → W.cell? ⟨b, off + j * 4, none⟩ = some (.int .i64 x.m.node) ∧ W.cell? ⟨b, off + j * 4 + 1, none⟩ = some (.int .i64 x.m.region) ∧ W.cell? ⟨b, off + j * 4 + 2, none⟩ = some (.int .i64 x.m.weight) ∧ W.cell? ⟨b, off + j * 4 + 3, none⟩ = some (.int .i64 x.rank)
theorem Cds.keep {W W' : World} {A : Nat → Prop} {v : Value} {l : List Cd} (h : Cds W v l) (k : Keep A W W') (hA : ∀ b, v.ownBlock = some b → ¬ A b) : Cds W' v l := by
  obtain ⟨a, c, b, off, rfl, hc, ha, h1⟩ := h.at_
  refine ⟨h.n, h.bd, a, c, b, off, rfl, hc, ha, fun j x hj => ?_⟩
  have hp : 0 < l.length := by have := (List.getElem?_eq_some_iff.1 hj).1; omega
  have hb := hA b (by rw [ha hp]; rfl)
  exact ⟨k.cell (h1 j x hj).1 hb, k.cell (h1 j x hj).2.1 hb, k.cell (h1 j x hj).2.2.1 hb, k.cell (h1 j x hj).2.2.2 hb⟩
theorem Cds.kept {W W' : World} {v : Value} {l : List Cd} (h : Cds W v l) (k : Keep (fun _ => False) W W') : Cds W' v l := h.keep k (fun _ _ h => h)

def FirstPost (w : World) (o : Option Cd) (e : Ending) (w' : World) : Prop := ∃ v, e = .returned (.tuple #[v, .bool o.isSome]) ∧ (∀ x, o = some x → v = cdV x) ∧ (∃ a b c d, v = cdV ⟨⟨a, b, c⟩, d⟩) ∧ Keep (fun _ => False) w w'

set_option maxRecDepth 100000 in
set_option maxHeartbeats 2000000 in
theorem first_any {bo br : Nat} {out : List Int} {g : Int → Bool} (vl v : Value) (cs : List Bool) (l : List Cd) (w : World) (h : Hs w bo br out g) (hcd : Cds w vl l) (hv : Cnds w v bo br cs) (hl : cs.length ≤ 10) : Calls Tryz.prog 119 #[vl, v] w (FirstPost w (l.find? (fun c => cs.all (fun b => condB out g b c.m)))) := by
  obtain ⟨hn, hbd, a, cp, bb, off, rfl, hc, ha, hcell⟩ := hcd
  have HC := Lib.hid hcell
  have HA := Lib.hid ha
  have HBD := Lib.hid hbd
  have HH := Lib.hid h
  have HV := Lib.hid hv
  obtain ⟨p, hp⟩ : ∃ p : Cd → Bool, (fun c => cs.all (fun b => condB out g b c.m)) = p := ⟨_, rfl⟩
  have HF : Hid (∀ (wr : World) (bc : Nat) (x : Cd), Keep (fun _ => False) w wr → I64 x.m.region → CdAt wr bc x → Calls Tryz.prog 138 #[v, .func (.func 139) #[] #[ptr bc]] wr fun e w' => e = .returned (.bool (!p x)) ∧ Keep (fun _ => False) wr w') := Lib.hid (fun wr bc x k hx hb => by
    rw [← hp]
    exact containsC_any v cs x hx wr (h.kept k) hb (hv.kept k) hl)
  rw [hp]
  clear hp HV HH hv h hcell ha hbd hl
  obtain ⟨ln, hn'⟩ : ∃ n, l.length = n := ⟨_, rfl⟩
  have HL := Lib.hid hn'
  rw [hn'] at hc hn ⊢
  clear hn'
  obtain ⟨zb, hzb⟩ : ∃ z, w.heap.size = z := ⟨_, rfl⟩
  have HZ := Lib.hid hzb
  have HB0 := Lib.hid (four_cell w (.int .i64 0) (.int .i64 0) (.int .i64 0) (.int .i64 0) 150)
  have HK0 : Hid (Keep (fun _ => False) w (w.alloc (.cells #[.int .i64 0, .int .i64 0, .int .i64 0, .int .i64 0] 150))) := Lib.hid ((Keep.refl _ w).alloc _)
  rw [hzb] at HB0
  go_enter Tryz.func119, Tryz.ntmps119
  go_upto_region 1 with (fail)
  try rw [hzb]
  clear hzb
  generalize w.alloc (.cells #[.int .i64 0, .int .i64 0, .int .i64 0, .int .i64 0] 150) = W0 at *
  go_wp2_with fail
  go_loopg [10] ln (fun gh v wr => ∃ k : Nat, gh + k = ln ∧ v = .int .i64 k ∧ Hid (∀ j x, j < k → l[j]? = some x → p x = false) ∧ Keep (fun _ => False) W0 wr)
  case atStart => exact ⟨0, by omega, rfl, Lib.hid (fun j m h => by omega), Keep.refl _ _⟩
  case round =>
    obtain ⟨k, hk, rfl, HN, hkeep⟩ := hrel
    have HK := Lib.hid hkeep
    have HKW := Lib.hid (HK0.out.trans hkeep)
    clear hkeep
    by_cases hlt : k < ln
    · obtain ⟨x, hm⟩ : ∃ x, l[k]? = some x := ⟨_, List.getElem?_eq_getElem (by have := HL.out; omega)⟩
      obtain rfl := HA.out (by have := HL.out; omega)
      obtain ⟨d0, d1, d2, d3⟩ := HC.out k x hm
      have c0 := HKW.out.cell d0 (fun h => h)
      have c1 := HKW.out.cell d1 (fun h => h)
      have c2 := HKW.out.cell d2 (fun h => h)
      have c3 := HKW.out.cell d3 (fun h => h)
      have HM := Lib.hid hm
      have HFX := Lib.hid (fun (wr : World) (bc : Nat) (k : Keep (fun _ => False) w wr) (hb : CdAt wr bc x) => HF.out wr bc x k (HBD.out x (List.mem_of_getElem? hm)) hb)
      have hkz : (k : Int) < (ln : Int) := by omega
      have hk0 : (0 : Int) ≤ (k : Int) := by omega
      clear hm d0 d1 d2 d3
      have HXC : Hid (∀ W bc, W.cell? ⟨bc, 0, none⟩ = some (.int .i64 x.m.node) → W.cell? ⟨bc, 1, none⟩ = some (.int .i64 x.m.region) → W.cell? ⟨bc, 2, none⟩ = some (.int .i64 x.m.weight) → W.cell? ⟨bc, 3, none⟩ = some (.int .i64 x.rank) → CdAt W bc x) := Lib.hid (fun W bc h0 h1 h2 h3 => ⟨h0, h1, h2, h3⟩)
      have HXE : Hid (cdV x = .agg #[.int .i64 x.m.node, .int .i64 x.m.region, .int .i64 x.m.weight, .int .i64 x.rank]) := Lib.hid rfl
      generalize x.m.node = x0 at *
      generalize x.m.region = x1 at *
      generalize x.m.weight = x2 at *
      generalize x.rank = x3 at *
      have HBX := Lib.hid (four_cell wr (.int .i64 x0) (.int .i64 x1) (.int .i64 x2) (.int .i64 x3) 150)
      have HKX : Hid (Keep (fun _ => False) wr (wr.alloc (.cells #[.int .i64 x0, .int .i64 x1, .int .i64 x2, .int .i64 x3] 150))) := Lib.hid ((Keep.refl _ wr).alloc _)
      have HSZ : Hid (zb < wr.heap.size) := Lib.hid (World.block_lt_of_cell? _ _ (HK.out.cell HB0.out.1 (fun h => h)))
      go_upto_region 4 with (fail)
      clear c0 c1 c2 c3
      generalize wr.alloc (.cells #[.int .i64 x0, .int .i64 x1, .int .i64 x2, .int .i64 x3] 150) = W1 at *
      generalize wr.heap.size = z1 at *
      go_wp2_with fail
      with_reducible refine (HFX.out _ z1 (HKW.out.trans HKX.out) (HXC.out _ _ HBX.out.1 HBX.out.2.1 HBX.out.2.2.1 HBX.out.2.2.2.1)).mono ?_
      rintro e W2 ⟨rfl, k2⟩
      have HK2 := Lib.hid (HK.out.trans (HKX.out.trans k2))
      have e0 := k2.cell HBX.out.1 (fun h => h)
      have e1 := k2.cell HBX.out.2.1 (fun h => h)
      have e2 := k2.cell HBX.out.2.2.1 (fun h => h)
      have e3 := k2.cell HBX.out.2.2.2.1 (fun h => h)
      have z0 := HK2.out.cell HB0.out.1 (fun h => h)
      have zz1 := HK2.out.cell HB0.out.2.1 (fun h => h)
      have zz2 := HK2.out.cell HB0.out.2.2.1 (fun h => h)
      have zz3 := HK2.out.cell HB0.out.2.2.2.1 (fun h => h)
      have zf : ∀ o, W2.frozen? ⟨zb, o, none⟩ = false := fun o => (HK2.out.frozen (World.block_lt_of_cell? _ _ HB0.out.1) (fun h => h) o).trans (HB0.out.2.2.2.2 o)
      clear k2
      cases hx : p x with
      | true =>
        have HR : Hid (l.find? p = some x) := Lib.hid (by
          rw [List.find?_eq_some_iff_getElem]
          refine ⟨hx, k, by have := HL.out; omega, ?_, fun j hj => ?_⟩
          · have := HM.out; rw [List.getElem?_eq_getElem (by have := HL.out; omega)] at this; exact Option.some.inj this
          · rw [HN.out j _ hj (List.getElem?_eq_getElem (by have := HL.out; omega))]; rfl)
        simp only [Bool.not_true]
        have HKF : Hid (∀ V, Keep (fun j => j = zb) W2 V → Keep (fun _ => False) w V) := Lib.hid (fun V kv => (HK0.out.trans HK2.out).trans' kv (fun j e => .inr (by have := HZ.out; omega)))
        have HN4 : Hid (((((W2.setCell ⟨zb, 0, none⟩ (.int .i64 x0)).setCell ⟨zb, 1, none⟩ (.int .i64 x1)).setCell ⟨zb, 2, none⟩ (.int .i64 x2)).setCell ⟨zb, 3, none⟩ (.int .i64 x3)).cell? ⟨zb, 0, none⟩ = some (.int .i64 x0) ∧ ((((W2.setCell ⟨zb, 0, none⟩ (.int .i64 x0)).setCell ⟨zb, 1, none⟩ (.int .i64 x1)).setCell ⟨zb, 2, none⟩ (.int .i64 x2)).setCell ⟨zb, 3, none⟩ (.int .i64 x3)).cell? ⟨zb, 1, none⟩ = some (.int .i64 x1) ∧ ((((W2.setCell ⟨zb, 0, none⟩ (.int .i64 x0)).setCell ⟨zb, 1, none⟩ (.int .i64 x1)).setCell ⟨zb, 2, none⟩ (.int .i64 x2)).setCell ⟨zb, 3, none⟩ (.int .i64 x3)).cell? ⟨zb, 2, none⟩ = some (.int .i64 x2) ∧ ((((W2.setCell ⟨zb, 0, none⟩ (.int .i64 x0)).setCell ⟨zb, 1, none⟩ (.int .i64 x1)).setCell ⟨zb, 2, none⟩ (.int .i64 x2)).setCell ⟨zb, 3, none⟩ (.int .i64 x3)).cell? ⟨zb, 3, none⟩ = some (.int .i64 x3)) := Lib.hid (by
          refine ⟨?_, ?_, ?_, ?_⟩
          · rw [cell_set_off (by decide), cell_set_off (by decide), cell_set_off (by decide)]; exact cell_set_same z0
          · rw [cell_set_off (by decide), cell_set_off (by decide)]; exact cell_set_same (by rw [cell_set_off (by decide)]; exact zz1)
          · rw [cell_set_off (by decide)]; exact cell_set_same (by rw [cell_set_off (by decide), cell_set_off (by decide)]; exact zz2)
          · exact cell_set_same (by rw [cell_set_off (by decide), cell_set_off (by decide), cell_set_off (by decide)]; exact zz3))
        have HKS : Hid (Keep (fun j => j = zb) W2 ((((W2.setCell ⟨zb, 0, none⟩ (.int .i64 x0)).setCell ⟨zb, 1, none⟩ (.int .i64 x1)).setCell ⟨zb, 2, none⟩ (.int .i64 x2)).setCell ⟨zb, 3, none⟩ (.int .i64 x3))) := Lib.hid (((((Keep.refl (fun j => j = zb) W2).setCell (p := ⟨zb, 0, none⟩) _ (.inl rfl)).setCell (p := ⟨zb, 1, none⟩) _ (.inl rfl)).setCell (p := ⟨zb, 2, none⟩) _ (.inl rfl)).setCell (p := ⟨zb, 3, none⟩) _ (.inl rfl))
        go_wp2_with fail
        generalize (((W2.setCell ⟨zb, 0, none⟩ (.int .i64 x0)).setCell ⟨zb, 1, none⟩ (.int .i64 x1)).setCell ⟨zb, 2, none⟩ (.int .i64 x2)).setCell ⟨zb, 3, none⟩ (.int .i64 x3) = W3 at *
        obtain ⟨g0, g1, g2, g3⟩ := HN4.out
        refine bodyPost_ret (v := .tuple #[.agg #[.int .i64 x0, .int .i64 x1, .int .i64 x2, .int .i64 x3], .bool true]) (by simp [results, Tryz.results119, go_sem, g0, g1, g2, g3]) rfl ?_
        exact ⟨cdV ⟨⟨x0, x1, x2⟩, x3⟩, by rw [HR.out]; rfl, fun y hy => by rw [HR.out] at hy; cases hy; exact HXE.out.symm, ⟨x0, x1, x2, x3, rfl⟩, HKF.out _ HKS.out⟩
      | false =>
        simp only [Bool.not_false]
        have HNN : Hid (∀ j x, j < k + 1 → l[j]? = some x → p x = false) := Lib.hid (fun j y hj hm => by
          by_cases e : j = k
          · subst e
            rw [HM.out] at hm
            cases hm
            exact hx
          · exact HN.out j y (by omega) hm)
        clear e0 e1 e2 e3 z0 zz1 zz2 zz3 zf
        go_wp2_with fail
        go_roundg (gk - 1)
        case rel => exact ⟨k + 1, by omega, by go_num, HNN, HK2.out⟩
        case measure => omega
    · have hkz : ¬ (k : Int) < (ln : Int) := by omega
      have HR : Hid (l.find? p = none) := Lib.hid (by
        rw [List.find?_eq_none]
        intro y hy
        obtain ⟨j, hj⟩ := List.mem_iff_getElem?.1 hy
        rw [HN.out j y (by have := (List.getElem?_eq_some_iff.1 hj).1; have := HL.out; omega) hj]
        decide)
      have z0 := HK.out.cell HB0.out.1 (fun h => h)
      have zz1 := HK.out.cell HB0.out.2.1 (fun h => h)
      have zz2 := HK.out.cell HB0.out.2.2.1 (fun h => h)
      have zz3 := HK.out.cell HB0.out.2.2.2.1 (fun h => h)
      have zf : ∀ o, wr.frozen? ⟨zb, o, none⟩ = false := fun o => (HK.out.frozen (World.block_lt_of_cell? _ _ HB0.out.1) (fun h => h) o).trans (HB0.out.2.2.2.2 o)
      have HKF : Hid (∀ V, Keep (fun j => j = zb) wr V → Keep (fun _ => False) w V) := Lib.hid (fun V kv => HKW.out.trans' kv (fun j e => .inr (by have := HZ.out; omega)))
      have HN4 : Hid (((((wr.setCell ⟨zb, 0, none⟩ (.int .i64 0)).setCell ⟨zb, 1, none⟩ (.int .i64 0)).setCell ⟨zb, 2, none⟩ (.int .i64 0)).setCell ⟨zb, 3, none⟩ (.int .i64 0)).cell? ⟨zb, 0, none⟩ = some (.int .i64 0) ∧ ((((wr.setCell ⟨zb, 0, none⟩ (.int .i64 0)).setCell ⟨zb, 1, none⟩ (.int .i64 0)).setCell ⟨zb, 2, none⟩ (.int .i64 0)).setCell ⟨zb, 3, none⟩ (.int .i64 0)).cell? ⟨zb, 1, none⟩ = some (.int .i64 0) ∧ ((((wr.setCell ⟨zb, 0, none⟩ (.int .i64 0)).setCell ⟨zb, 1, none⟩ (.int .i64 0)).setCell ⟨zb, 2, none⟩ (.int .i64 0)).setCell ⟨zb, 3, none⟩ (.int .i64 0)).cell? ⟨zb, 2, none⟩ = some (.int .i64 0) ∧ ((((wr.setCell ⟨zb, 0, none⟩ (.int .i64 0)).setCell ⟨zb, 1, none⟩ (.int .i64 0)).setCell ⟨zb, 2, none⟩ (.int .i64 0)).setCell ⟨zb, 3, none⟩ (.int .i64 0)).cell? ⟨zb, 3, none⟩ = some (.int .i64 0)) := Lib.hid (by
        refine ⟨?_, ?_, ?_, ?_⟩
        · rw [cell_set_off (by decide), cell_set_off (by decide), cell_set_off (by decide)]; exact cell_set_same z0
        · rw [cell_set_off (by decide), cell_set_off (by decide)]; exact cell_set_same (by rw [cell_set_off (by decide)]; exact zz1)
        · rw [cell_set_off (by decide)]; exact cell_set_same (by rw [cell_set_off (by decide), cell_set_off (by decide)]; exact zz2)
        · exact cell_set_same (by rw [cell_set_off (by decide), cell_set_off (by decide), cell_set_off (by decide)]; exact zz3))
      have HKS : Hid (Keep (fun j => j = zb) wr ((((wr.setCell ⟨zb, 0, none⟩ (.int .i64 0)).setCell ⟨zb, 1, none⟩ (.int .i64 0)).setCell ⟨zb, 2, none⟩ (.int .i64 0)).setCell ⟨zb, 3, none⟩ (.int .i64 0))) := Lib.hid (((((Keep.refl (fun j => j = zb) wr).setCell (p := ⟨zb, 0, none⟩) _ (.inl rfl)).setCell (p := ⟨zb, 1, none⟩) _ (.inl rfl)).setCell (p := ⟨zb, 2, none⟩) _ (.inl rfl)).setCell (p := ⟨zb, 3, none⟩) _ (.inl rfl))
      go_wp2_with fail
      generalize (((wr.setCell ⟨zb, 0, none⟩ (.int .i64 0)).setCell ⟨zb, 1, none⟩ (.int .i64 0)).setCell ⟨zb, 2, none⟩ (.int .i64 0)).setCell ⟨zb, 3, none⟩ (.int .i64 0) = W3 at *
      obtain ⟨g0, g1, g2, g3⟩ := HN4.out
      refine bodyPost_ret (v := .tuple #[.agg #[.int .i64 0, .int .i64 0, .int .i64 0, .int .i64 0], .bool false]) (by simp [results, Tryz.results119, go_sem, g0, g1, g2, g3]) rfl ?_
      exact ⟨cdV ⟨⟨0, 0, 0⟩, 0⟩, by rw [HR.out]; rfl, (by rw [HR.out]; intro y hy; cases hy), ⟨0, 0, 0, 0, rfl⟩, HKF.out _ HKS.out⟩
end Go.Proofs.YtplkmbfeeegaiaaGreatDoor

/-
  Candidates in a slice of their own; their sort.
-/
namespace Go.Proofs.YtplkmbfeeegaiaaGreatDoor
open Go.RowKit Go.Shelf
open Go.Sort (grow)

def flatC (l : List Cd) : List Value := l.flatMap encCd
theorem flatC_append (a b : List Cd) : flatC (a ++ b) = flatC a ++ flatC b := by unfold flatC; rw [List.flatMap_append]
theorem flatC_one (x : Cd) : flatC [x] = encCd x := by simp [flatC]
theorem encCd_len (x : Cd) : (encCd x).length = 4 := rfl
/-- Candidates in a slice of their own. -/
def OwnC (w : World) (l : List Cd) (v : Value) (W : World) : Prop := Keep (fun _ => False) w W ∧ W.ownsRow w.heap.size 150 4 v l.length (flatC l)
theorem OwnC.nil {w W : World} (k : Keep (fun _ => False) w W) : OwnC w [] (.slice none 0 0) W := ⟨k, by simpa [flatC] using World.ownsRow_nil W w.heap.size 150 4⟩
theorem OwnC.keep {w W W' : World} {l : List Cd} {v : Value} (h : OwnC w l v W) (k : Keep (fun _ => False) W W') : OwnC w l v W' := ⟨h.1.trans k, ownsRow_keep h.2 k (fun _ _ h => h)⟩
theorem OwnC.form {w W : World} {l : List Cd} {v : Value} (h : OwnC w l v W) : v = .slice none 0 0 ∨ ∃ b n c, v = .slice (some ⟨b, 0, none⟩) n c := by
  rcases h.2.2 with ⟨rfl, _⟩ | ⟨g', cap, cur, rfl, _⟩
  · exact .inl rfl
  · exact .inr ⟨_, _, _, rfl⟩
theorem infoCd : (Tryz.prog.info? 150).map (fun i => (i.zero, i.size, i.bytes)) = some (some (.agg #[.int .i64 0, .int .i64 0, .int .i64 0, .int .i64 0]), 4, 32) := by kernel_rfl
theorem OwnC.snoc {w W : World} {l : List Cd} {v : Value} (h : OwnC w l v W) (x : Cd) (hl : l.length ≤ 100000) :
    ∃ v' w', (Builtin.append_ #[147, 147] 147 #[v, .slice (some ⟨W.heap.size, 0, none⟩) 1 1]).run Tryz.prog (W.alloc (.cells #[.int .i64 x.m.node, .int .i64 x.m.region, .int .i64 x.m.weight, .int .i64 x.rank] 150)) = .ok v' w' ∧ OwnC w (l ++ [x]) v' w' ∧ Keep (fun j => v.ownBlock = some j) W w' ∧ (v'.ownBlock = v.ownBlock ∨ v'.ownBlock = some (W.heap.size + 1)) := by
  obtain ⟨v', w', r1, r2, r3, r4, -⟩ := app_one 147 150 4 32 _ Tryz.underlying147 infoCd rfl (by decide) (by decide) W 147 w.heap.size v l.length (flatC l) (encCd x) h.2 rfl (by simp [encCd, Value.oneCell']) (by omega) h.1.size
  refine ⟨v', w', r1, ⟨h.1.trans' r3 (fun j e => .inr (h.2.lt j e).1), ?_⟩, r3, r4⟩
  rw [flatC_append, flatC_one, List.length_append]
  exact r2
theorem holds_cds {W : World} {g : Nat} {d : Array Cd} (h : Go.Sort.HoldsK encCd 4 W g 0 d) (j : Nat) (x : Cd) (hj : d.toList[j]? = some x) : W.cell? ⟨g, 0 + j * 4, none⟩ = some (.int .i64 x.m.node) ∧ W.cell? ⟨g, 0 + j * 4 + 1, none⟩ = some (.int .i64 x.m.region) ∧ W.cell? ⟨g, 0 + j * 4 + 2, none⟩ = some (.int .i64 x.m.weight) ∧ W.cell? ⟨g, 0 + j * 4 + 3, none⟩ = some (.int .i64 x.rank) := by
  have hlt : j < d.size := by have := (List.getElem?_eq_some_iff.1 hj).1; simpa using this
  have hx : d[j]! = x := by
    rw [Array.getElem?_toList, Array.getElem?_eq_getElem hlt] at hj
    simp only [Option.some.injEq] at hj
    rw [getElem!_pos d j hlt]; exact hj
  have key : ∀ r, r < 4 → W.cell? ⟨g, 0 + (j * 4 + r), none⟩ = some ((encCd x)[r]!) := fun r hr => by
    have h1 := (h (j * 4 + r) (by rw [Go.Sort.size_flatK]; omega)).1
    rw [Go.Sort.get_flatK _ _ _ _ (by omega), show (j * 4 + r) / 4 = j by omega, show (j * 4 + r) % 4 = r by omega, hx] at h1
    exact h1
  exact ⟨key 0 (by decide), by have := key 1 (by decide); rwa [← Nat.add_assoc] at this, by have := key 2 (by decide); rwa [← Nat.add_assoc] at this, by have := key 3 (by decide); rwa [← Nat.add_assoc] at this⟩
theorem owns_holdsC {W : World} {lo g n cap : Nat} {l : List Cd} (h : W.ownsRow lo 150 4 (.slice (some ⟨g, 0, none⟩) n cap) l.length (flatC l)) : Go.Sort.HoldsK encCd 4 W g 0 l.toArray := by
  intro j hj
  rw [Go.Sort.size_flatK] at hj
  simp only [List.size_toArray] at hj
  have hq : j / 4 < l.length := by omega
  have hx : l[j / 4]? = some l[j / 4] := List.getElem?_eq_getElem hq
  have h1 : (flatC l)[j / 4 * 4 + j % 4]? = _ := flat_get encCd_len l (j / 4) _ (j % 4) hx (by omega)
  rw [show j / 4 * 4 + j % 4 = j by omega] at h1
  have h2 : (encCd l[j / 4])[j % 4]? = some ((encCd l[j / 4])[j % 4]!) := by
    have : j % 4 < (encCd l[j / 4]).length := by show j % 4 < 4; omega
    rw [List.getElem?_eq_getElem this, getElem!_pos (encCd l[j / 4]) (j % 4) this]
  rw [h2] at h1
  have h3 := h.cells (g := g) rfl _ _ h1
  rw [Addr.add_lit] at h3
  refine ⟨?_, ?_⟩
  · rw [Go.Sort.get_flatK _ _ _ _ (by simpa using hj)]
    have e : (l.toArray)[j / 4]! = l[j / 4] := by rw [getElem!_pos l.toArray (j / 4) (by simpa using hq)]; simp
    rw [e]; exact h3
  · rcases h.2 with ⟨h4, _⟩ | ⟨g', cap', cur, h4, _, hh, _⟩
    · cases h4
    · cases h4
      unfold World.frozen?
      rw [hh]
      rfl
theorem keep_sortC (w : World) (blk off m : Nat) (d : Array Cd) (os : Array Obj) : Keep (fun j => j = blk) w (Go.Proofs.sortWorldK encCd 4 w blk off m d os) := by
  unfold Go.Proofs.sortWorldK
  refine ⟨rfl, rfl, rfl, ?_, fun k hk hn => ?_⟩
  · rw [Go.Sort.size_grow, Go.Sort.size_putRowK]
    exact Nat.le_add_right _ _
  · unfold grow
    show ((Go.Sort.putRowK encCd 4 (Go.Sort.ahead w m) blk off d).heap ++ os)[k]? = _
    rw [Array.getElem?_append_left (by rw [Go.Sort.size_putRowK]; exact hk)]
    unfold Go.Sort.putRowK Go.Sort.putRow Go.Sort.mapBlock
    show ((Go.Sort.ahead w m).heap.modify blk _)[k]? = _
    rw [Array.getElem?_modify, if_neg (fun e => hn e.symm)]
    rfl

/-- The members with their ranks. -/
def cdsOf (rk : Int → Int) (l : List Mb) : List Cd := l.map (fun m => ⟨m, rk m.node⟩)
def SortC (rk : Int → Int) (l : List Mb) (w : World) (v : Value) (e : Ending) (w' : World) : Prop := e = .returned (.tuple #[]) ∧ ∃ s : List Mb, s.Perm l ∧ s.Pairwise (befC rk) ∧ Cds w' v (cdsOf rk s) ∧ Keep (fun j => v.ownBlock = some j) w w'
theorem sort_cands {w0 w : World} {rk : Int → Int} {l : List Mb} {v : Value} (h : OwnC w0 (cdsOf rk l) v w) (hv : VL l) : Calls Tryz.prog 115 #[v, .func (.func 116) #[] #[]] w (SortC rk l w v) := by
  have hlen := hv.len
  have hlp : 0 < l.length := List.length_pos_iff.2 hv.ne
  have hcl : (cdsOf rk l).length = l.length := by unfold cdsOf; rw [List.length_map]
  rcases h.2.2 with ⟨rfl, h0⟩ | ⟨g, cap, cur, rfl, hg, hh, hcap, r⟩
  · omega
  · have hH := owns_holdsC h.2
    have hblk : g < w.heap.size := (Array.getElem?_eq_some_iff.1 hh).1
    have hs := sortCands g 0 cap (cdsOf rk l).toArray w hH hblk (by simp; omega)
    simp only [List.size_toArray] at hs
    refine hs.mono ?_
    rintro e w' ⟨rfl, d', n, os, hperm, hsort, rfl⟩
    have hp : d'.toList.Perm (cdsOf rk l) := by
      have h1 := hperm.2.2
      have h2 := hperm.1
      simp only [List.size_toArray] at h2
      have e1 : d'.extract 0 (cdsOf rk l).length = d' := by rw [← h2]; exact Array.extract_size
      have e2 : ((cdsOf rk l).toArray.extract 0 (cdsOf rk l).length) = (cdsOf rk l).toArray := by simp
      rw [e1, e2] at h1
      simpa using h1
    have hd : ∀ x ∈ d'.toList, x.rank = rk x.m.node ∧ x.m ∈ l := fun x hx => by
      have := hp.mem_iff.1 hx
      unfold cdsOf at this
      obtain ⟨m, hm, rfl⟩ := List.mem_map.1 this
      exact ⟨rfl, hm⟩
    obtain ⟨s, hs0⟩ : ∃ s : List Mb, d'.toList.map Cd.m = s := ⟨_, rfl⟩
    have hs1 : cdsOf rk s = d'.toList := by
      unfold cdsOf
      rw [← hs0, List.map_map]
      have : ∀ x ∈ d'.toList, ((fun m : Mb => (⟨m, rk m.node⟩ : Cd)) ∘ Cd.m) x = x := fun x hx => by
        have := (hd x hx).1
        cases x
        simp only [Function.comp] at *
        rw [this]
      exact (List.map_congr_left this).trans (List.map_id _)
    have hsp : s.Perm l := by
      have h1 := hp.map Cd.m
      rw [hs0] at h1
      refine h1.trans ?_
      unfold cdsOf
      rw [List.map_map]
      have : (Cd.m ∘ fun m : Mb => (⟨m, rk m.node⟩ : Cd)) = id := rfl
      rw [this, List.map_id]
    have hsz : d'.size = l.length := by have := hp.length_eq; simp only [Array.length_toList] at this; omega
    have hnd : (s.map Mb.node).Nodup := (hsp.map Mb.node).nodup_iff.2 (map_nodup hv.asc)
    have hpw : s.Pairwise (befC rk) := by
      have hso : d'.toList.Pairwise (fun x y => ¬ ltCd y x) := by
        rw [List.pairwise_iff_getElem]
        intro i j hi hj hij
        have hi' : i < d'.size := by simpa using hi
        have hj' : j < d'.size := by simpa using hj
        have h1 := hsort i j (Nat.zero_le _) hij (by omega)
        rw [cmpC_lt, decide_eq_false_iff_not, getElem!_pos d' j hj', getElem!_pos d' i hi'] at h1
        rwa [Array.getElem_toList, Array.getElem_toList]
      rw [← hs1] at hso
      unfold cdsOf at hso
      rw [List.pairwise_map] at hso
      rw [List.nodup_iff_pairwise_ne, List.pairwise_map] at hnd
      refine (hso.and hnd).imp ?_
      rintro x y ⟨h1, h2⟩
      unfold ltCd at h1
      unfold befC
      simp only [] at h1
      omega
    refine ⟨rfl, s, hsp, hpw, ⟨by rw [hs1]; simp only [Array.length_toList]; omega, fun x hx => ?_, some ⟨g, 0, none⟩, cap, g, 0, ?_, ?_, fun _ => rfl, fun j x hj => ?_⟩, ?_⟩
    · have := hv.ok x.m (hd x (by rw [← hs1]; exact hx)).2
      unfold okMb at this
      unfold I64
      omega
    · rw [hs1]; simp only [Array.length_toList]; rw [hsz, hcl]
    · rw [hs1, Array.length_toList]; omega
    · have hHd := Go.Proofs.holdsK_sortWorldK_c encCd 4 w g 0 (cdsOf rk l).toArray d' n os hH hblk (by simp; omega)
      rw [hs1] at hj
      exact holds_cds hHd j x hj
    · refine (keep_sortC w g 0 n d' os).mono (fun j e => ?_)
      show some g = some j
      rw [e]
end Go.Proofs.YtplkmbfeeegaiaaGreatDoor

/-
  The holders of a key.
-/
namespace Go.Proofs.YtplkmbfeeegaiaaGreatDoor
open Go.RowKit Go.Shelf

/-- The rank of a node for a key. -/
def rkT (key : ByteArray) (n : Int) : ByteArray := (key ++ ⟨#[32]⟩) ++ dig n.toNat
def rkOf (key : ByteArray) (n : Int) : Int := (pt (rkT key n) : Nat)
/-- The holders. -/
def holdV (ep : Int) (l : List Mb) (ow : List Int) (key : ByteArray) (n : Int) : List Int := if validRB ep l ow = true then (if n < 1 ∨ 3 < n then [ownerOf ow key] else holdC (rkOf key) l (ownerOf ow key) n.toNat) else []
def HoldPost (w : World) (xs : List Int) (e : Ending) (w' : World) : Prop := ∃ v, e = .returned v ∧ Its w' v xs ∧ Keep (fun _ => False) w w'

/-- The regions of the owner among the first k. -/
def regK (l : List Mb) (o : Int) (k : Nat) (r : Int) : Bool := (l.take k).any (fun m => decide (m.node = o) && decide (m.region = r))
theorem regK_zero (l : List Mb) (o : Int) : regK l o 0 = fun _ => false := by funext r; simp [regK]
theorem regK_succ {l : List Mb} {o : Int} {k : Nat} {m : Mb} (h : l[k]? = some m) : regK l o (k + 1) = fun r => regK l o k r || (decide (m.node = o) && decide (m.region = r)) := by
  funext r
  unfold regK
  rw [List.take_add_one, h, Option.toList_some, List.any_append]
  simp
theorem regK_all {l : List Mb} {o : Int} {k : Nat} (h : l.length ≤ k) : regK l o k = usedC l [o] := by
  funext r
  unfold regK usedC
  rw [List.take_of_length_le h]
  congr 1
  funext m
  have : ([o].contains m.node) = decide (m.node = o) := by simp
  rw [this]
theorem usedC_snoc {l : List Mb} {out : List Int} {x : Mb} (ha : l.Pairwise (fun a b => a.node < b.node)) (hx : x ∈ l) : usedC l (out ++ [x.node]) = fun r => usedC l out r || decide (r = x.region) := by
  funext r
  unfold usedC
  apply Bool.eq_iff_iff.2
  simp only [List.any_eq_true, Bool.or_eq_true, Bool.and_eq_true, decide_eq_true_eq, List.contains_iff_mem, List.mem_append, List.mem_singleton]
  constructor
  · rintro ⟨m, hm, hmo | hmo, hr⟩
    · exact .inl ⟨m, hm, hmo, hr⟩
    · right
      have h1 := findN_mem ha hm
      have h2 := findN_mem ha hx
      rw [hmo, h2] at h1
      cases h1
      exact hr.symm
  · rintro (⟨m, hm, hmo, hr⟩ | rfl)
    · exact ⟨m, hm, .inl hmo, hr⟩
    · exact ⟨x, hx, .inr rfl, rfl⟩

theorem ok_mem {ep : Int} {l : List Mb} {ow : List Int} (h : okRing ep l ow) : ∀ n ∈ ow, n ∈ l.map Mb.node := fun n hn => by
  have h1 := mem_cnt_pos hn
  have h2 := h.2.2.2.2 n
  by_cases e : ∃ m ∈ l, m.node = n
  · obtain ⟨m, hm, e⟩ := e
    exact List.mem_map.2 ⟨m, hm, e⟩
  · rw [limitL_none (fun m hm e' => e ⟨m, hm, e'⟩)] at h2
    omega
theorem owner_mem {ep : Int} {l : List Mb} {ow : List Int} (h : okRing ep l ow) (key : ByteArray) : ownerOf ow key ∈ l.map Mb.node := by
  unfold ownerOf
  rw [if_pos h.2.2.2.1]
  have hs := slotOf_lt key
  have hl := h.2.2.2.1
  rw [List.getD_eq_getElem?_getD, List.getElem?_eq_getElem (by omega), Option.getD_some]
  exact ok_mem h _ (List.getElem_mem _)

/-- What the two searches find. -/
theorem find_both {rk : Int → Int} {l s : List Mb} {out : List Int} (ha : l.Pairwise (fun a b => a.node < b.node)) (hp : s.Perm l) (hs : s.Pairwise (befC rk)) (cs : List Bool) (p : Mb → Bool) (h : ∀ m, cs.all (fun b => condB out (usedC l out) b m) = p m) :
    (cdsOf rk s).find? (fun c => cs.all (fun b => condB out (usedC l out) b c.m)) = (selC rk l p).map (fun m => ⟨m, rk m.node⟩) := by
  rw [← selC_sorted ha hp hs p]
  unfold cdsOf
  rw [List.find?_map]
  congr 2
  funext m
  exact h m
theorem cond_two (l : List Mb) (out : List Int) (m : Mb) : [true, false].all (fun b => condB out (usedC l out) b m) = (freeC out m && awayC l out m) := by
  simp [condB, freeC, awayC, hasI]
theorem cond_one (l : List Mb) (out : List Int) (m : Mb) : [true].all (fun b => condB out (usedC l out) b m) = freeC out m := by
  simp [condB, freeC, hasI]
theorem holdV_len (ep : Int) (l : List Mb) (ow : List Int) (key : ByteArray) (n : Int) : (holdV ep l ow key n).length ≤ 24 := by
  unfold holdV
  split
  · rename_i h
    have hok := (validRB_iff ep l ow).1 h
    split
    · simp
    · have h1 := (holdC_ok (rk := rkOf key) hok.2.2.1.asc (owner_mem hok key) n.toNat).len
      have h2 := hok.2.2.1.len
      omega
  · simp
theorem rkT_size {key : ByteArray} {n : Int} (hk : key.size ≤ 1000) (hn : n.toNat < 100) : (rkT key n).size ≤ 1000000 := by
  have h1 := dig_size hn
  unfold rkT
  rw [ByteArray.size_append, ByteArray.size_append]
  have e2 : (⟨#[32]⟩ : ByteArray).size = 1 := rfl
  omega
end Go.Proofs.YtplkmbfeeegaiaaGreatDoor

/-
  cmp.Compare, cmp.Or, pick.
-/
namespace Go.Proofs.YtplkmbfeeegaiaaGreatDoor.Sk
open Go.RowKit

def cmpI (a b : Int) : Int := if a < b then -1 else if b < a then 1 else 0

set_option maxHeartbeats 400000 in
theorem isNaN_int (a : Int) (w : World) : Calls Tryz.prog 111 #[.int .i64 a] w fun e w' => e = .returned (.bool false) ∧ w = w' := by
  have h : (a != a) = false := by simp
  go_enter Tryz.func111, Tryz.ntmps111
  go_wp2
  go_ret
  exact ⟨rfl, rfl⟩
set_option maxHeartbeats 400000 in
theorem isNaN_str (a : ByteArray) (w : World) : Calls Tryz.prog 171 #[.string a] w fun e w' => e = .returned (.bool false) ∧ w = w' := by
  have h : (a.toList == a.toList) = true := by simp
  go_enter Tryz.func171, Tryz.ntmps171
  go_wp2
  go_ret
  exact ⟨rfl, rfl⟩

set_option maxHeartbeats 400000 in
theorem cmp_int (a b : Int) (w : World) : Calls Tryz.prog 74 #[.int .i64 a, .int .i64 b] w fun e w' => e = .returned (.int .i64 (cmpI a b)) ∧ w = w' := by
  rcases Int.lt_trichotomy a b with h1 | h1 | h1
  · have HC : Hid (cmpI a b = -1) := Lib.hid (by unfold cmpI; rw [if_pos h1])
    go_enter Tryz.func74, Tryz.ntmps74
    go_wp2_with (go_at_call 111; refine (isNaN_int _ _).mono ?_; rintro e w' ⟨rfl, rfl⟩)
    go_ret
    exact ⟨by rw [HC.out]; rfl, rfl⟩
  · have HC : Hid (cmpI a b = 0) := Lib.hid (by unfold cmpI; rw [if_neg (by omega), if_neg (by omega)])
    have h2 : ¬ a < b := by omega
    have h3 : ¬ b < a := by omega
    clear h1
    go_enter Tryz.func74, Tryz.ntmps74
    go_wp2_with (go_at_call 111; refine (isNaN_int _ _).mono ?_; rintro e w' ⟨rfl, rfl⟩)
    go_ret
    exact ⟨by rw [HC.out]; rfl, rfl⟩
  · have HC : Hid (cmpI a b = 1) := Lib.hid (by unfold cmpI; rw [if_neg (by omega), if_pos h1])
    go_enter Tryz.func74, Tryz.ntmps74
    go_wp2_with (go_at_call 111; refine (isNaN_int _ _).mono ?_; rintro e w' ⟨rfl, rfl⟩)
    go_ret
    exact ⟨by rw [HC.out]; rfl, rfl⟩

/-- The order of strings, as cmp.Compare tells it. -/
def cmpS (a b : ByteArray) : Int := if Op.bytesLess a.toList b.toList = true then -1 else if (a.toList == b.toList) = true then 0 else 1

set_option maxHeartbeats 400000 in
theorem cmp_str (a b : ByteArray) (w : World) : Calls Tryz.prog 142 #[.string a, .string b] w fun e w' => e = .returned (.int .i64 (cmpS a b)) ∧ w = w' := by
  cases h1 : Op.bytesLess a.toList b.toList with
  | true =>
    have HC : Hid (cmpS a b = -1) := Lib.hid (by unfold cmpS; rw [if_pos h1])
    go_enter Tryz.func142, Tryz.ntmps142
    go_wp2_with (go_at_call 171; refine (isNaN_str _ _).mono ?_; rintro e w' ⟨rfl, rfl⟩)
    go_ret
    exact ⟨by rw [HC.out]; rfl, rfl⟩
  | false =>
    cases h2 : (a.toList == b.toList) with
    | true =>
      have HC : Hid (cmpS a b = 0) := Lib.hid (by unfold cmpS; rw [if_neg (by rw [h1]; decide), if_pos h2])
      go_enter Tryz.func142, Tryz.ntmps142
      go_wp2_with (go_at_call 171; refine (isNaN_str _ _).mono ?_; rintro e w' ⟨rfl, rfl⟩)
      go_ret
      exact ⟨by rw [HC.out]; rfl, rfl⟩
    | false =>
      have HC : Hid (cmpS a b = 1) := Lib.hid (by unfold cmpS; rw [if_neg (by rw [h1]; decide), if_neg (by rw [h2]; decide)])
      go_enter Tryz.func142, Tryz.ntmps142
      go_wp2_with (go_at_call 171; refine (isNaN_str _ _).mono ?_; rintro e w' ⟨rfl, rfl⟩)
      go_ret
      exact ⟨by rw [HC.out]; rfl, rfl⟩

/-- The first one that is not 0. -/
def orI (x y : Int) : Int := if x = 0 then y else x
set_option maxHeartbeats 400000 in
theorem cmp_or (b c : Nat) (x y : Int) (w : World) (hx : w.cell? ⟨b, 0, none⟩ = some (.int .i64 x)) (hy : w.cell? ⟨b, 1, none⟩ = some (.int .i64 y)) :
    Calls Tryz.prog 108 #[.slice (some ⟨b, 0, none⟩) 2 c] w fun e w' => e = .returned (.int .i64 (orI x y)) ∧ w = w' := by
  have HO : Hid (∀ v, (x ≠ 0 → v = x) → (x = 0 → v = y) → orI x y = v) := Lib.hid (fun v h1 h2 => by
    unfold orI
    by_cases h : x = 0
    · rw [if_pos h, h2 h]
    · rw [if_neg h, h1 h])
  go_enter Tryz.func108, Tryz.ntmps108
  go_wp2_with fail
  go_loop [8] (fun i => ∃ k : Nat, k ≤ 2 ∧ i = .int .i64 k ∧ (1 ≤ k → x = 0) ∧ (2 ≤ k → y = 0)) (fun i => 2 - (intOf i).toNat)
  case atStart => exact ⟨0, by omega, rfl, by omega, by omega⟩
  case round =>
    obtain ⟨k, hk, rfl, h1, h2⟩ := hrel
    have H1 := Lib.hid h1
    have H2 := Lib.hid h2
    clear h1 h2
    by_cases hk0 : k = 0
    · subst hk0
      by_cases hx0 : x = 0
      · have hb : (x == 0) = true := by simpa using hx0
        have HX := Lib.hid hx0
        clear hx0
        go_wp2_with fail
        go_round
        case rel => exact ⟨1, by omega, by go_num, fun _ => HX.out, by omega⟩
        case measure => simp [intOf]
      · have hb : (x == 0) = false := by simpa using hx0
        have HX := Lib.hid hx0
        clear hx0
        go_wp2_with fail
        go_ret
        exact ⟨by rw [HO.out x (fun _ => rfl) (fun h => absurd h HX.out)]; rfl, rfl⟩
    · by_cases hk1 : k = 1
      · subst hk1
        by_cases hy0 : y = 0
        · have hb : (y == 0) = true := by simpa using hy0
          have HY := Lib.hid hy0
          clear hy0
          go_wp2_with fail
          go_round
          case rel => exact ⟨2, by omega, by go_num, fun _ => H1.out (by omega), fun _ => HY.out⟩
          case measure => simp [intOf]
        · have hb : (y == 0) = false := by simpa using hy0
          have HY := Lib.hid hy0
          clear hy0
          go_wp2_with fail
          go_ret
          exact ⟨by rw [HO.out y (fun h => absurd (H1.out (by omega)) h) (fun _ => rfl)]; rfl, rfl⟩
      · obtain rfl : k = 2 := by omega
        go_wp2_with fail
        go_ret
        exact ⟨by rw [HO.out 0 (fun h => absurd (H1.out (by omega)) h) (fun _ => (H2.out (by omega)).symm)]; rfl, rfl⟩

def pk (c n : Int) : Int := (if c < 0 then -(c + 1) else c) % n
end Go.Proofs.YtplkmbfeeegaiaaGreatDoor.Sk

/-
  What a sketch is in memory; compare.
-/
namespace Go.Proofs.YtplkmbfeeegaiaaGreatDoor.Sk
open Go.RowKit

/-- A counter: its key and the bounds. -/
structure C where
  key : ByteArray
  lo : Int
  hi : Int

abbrev ptr (b : Nat) : Value := .pointer (some ⟨b, 0, none⟩)
abbrev bnd (lo hi : Int) : Value := .agg #[.int .i64 lo, .int .i64 hi]
def CRel (L : List C) (k v : Value) : Prop := ∃ x ∈ L, k = .string x.key ∧ v = bnd x.lo x.hi

theorem strKeyed : Maps.Keyed Tryz.prog 9 := Maps.string_keyed Tryz.underlying9
theorem keyStr {s : ByteArray} (h : s.size ≤ maxLen) : keyOf Tryz.prog 9 (.string s) = some (.string s.data.toList) := Go.WideMaps.keyOf_string_mk Tryz.underlying9 h

/-- The counter of a key. -/
def atC (L : List C) (key : ByteArray) : Option C := L.find? (fun x => decide (x.key = key))
def loOf (L : List C) (key : ByteArray) : Int := match atC L key with | none => 0 | some x => x.lo
def hiOf (L : List C) (key : ByteArray) : Int := match atC L key with | none => 0 | some x => x.hi

theorem atC_some {L : List C} {key : ByteArray} {x : C} (h : atC L key = some x) : x ∈ L ∧ x.key = key := by
  have h1 := List.find?_some h
  exact ⟨List.mem_of_find?_eq_some h, by simpa using h1⟩
theorem atC_none {L : List C} {key : ByteArray} (h : atC L key = none) : ∀ x ∈ L, x.key ≠ key := fun x hx e => by
  have := List.find?_eq_none.1 h x hx
  simp [e] at this

theorem zero60 (w : World) : (zeroValue 116).run Tryz.prog w = .ok (bnd 0 0) w := by kernel_rfl

/-- A lookup. -/
theorem look_one {L : List C} {w : World} {bm : Nat} (h : MapRel Tryz.prog 9 w bm (CRel L)) {key : ByteArray} (hk : key.size ≤ maxLen) :
    (Instr.lookup 109 (.map (some bm)) (.string key) false).run Tryz.prog w = .ok (bnd (loOf L key) (hiOf L key)) w := by
  unfold loOf hiOf
  rcases h.look strKeyed Tryz.underlying109 (zero60 w) false (keyStr hk) with ⟨h1, h2⟩ | ⟨v, h1, h2⟩
  · rw [h2]
    cases ha : atC L key with
    | none => rfl
    | some x =>
      obtain ⟨hx, hxk⟩ := atC_some ha
      exact absurd ⟨x, hx, by rw [hxk], rfl⟩ (h1 (bnd x.lo x.hi))
  · rw [h2]
    cases ha : atC L key with
    | none =>
      obtain ⟨x, hx, e, _⟩ := h1
      exact absurd (Value.string.inj e).symm (atC_none ha x hx)
    | some x =>
      obtain ⟨hx, hxk⟩ := atC_some ha
      have e : v = bnd x.lo x.hi := h.fn h1 ⟨x, hx, by rw [hxk], rfl⟩
      subst e
      rfl
theorem look_two {L : List C} {w : World} {bm : Nat} (h : MapRel Tryz.prog 9 w bm (CRel L)) {key : ByteArray} (hk : key.size ≤ maxLen) :
    (Instr.lookup 109 (.map (some bm)) (.string key) true).run Tryz.prog w = .ok (.tuple #[bnd (loOf L key) (hiOf L key), .bool (atC L key).isSome]) w := by
  unfold loOf hiOf
  rcases h.look strKeyed Tryz.underlying109 (zero60 w) true (keyStr hk) with ⟨h1, h2⟩ | ⟨v, h1, h2⟩
  · rw [h2]
    cases ha : atC L key with
    | none => rfl
    | some x =>
      obtain ⟨hx, hxk⟩ := atC_some ha
      exact absurd ⟨x, hx, by rw [hxk], rfl⟩ (h1 (bnd x.lo x.hi))
  · rw [h2]
    cases ha : atC L key with
    | none =>
      obtain ⟨x, hx, e, _⟩ := h1
      exact absurd (Value.string.inj e).symm (atC_none ha x hx)
    | some x =>
      obtain ⟨hx, hxk⟩ := atC_some ha
      have e : v = bnd x.lo x.hi := h.fn h1 ⟨x, hx, by rw [hxk], rfl⟩
      subst e
      rfl

/-- How the sketch orders two keys. -/
def cmpK (L : List C) (a b : ByteArray) : Int := orI (cmpI (hiOf L b) (hiOf L a)) (cmpS a b)

theorem cmp_int' (a b : Int) (w : World) : Calls Tryz.prog 74 #[.int .i64 a, .int .i64 b] w fun e w' => e = .returned (.int .i64 (cmpI a b)) ∧ w' = w := (cmp_int a b w).mono fun _ _ ⟨h1, h2⟩ => ⟨h1, h2.symm⟩
theorem cmp_str' (a b : ByteArray) (w : World) : Calls Tryz.prog 142 #[.string a, .string b] w fun e w' => e = .returned (.int .i64 (cmpS a b)) ∧ w' = w := (cmp_str a b w).mono fun _ _ ⟨h1, h2⟩ => ⟨h1, h2.symm⟩

theorem ints_cell (W : World) (x y : Int) : (W.alloc (.cells #[.int .i64 x, .int .i64 y] 3)).cell? ⟨W.heap.size, 0, none⟩ = some (.int .i64 x) ∧ (W.alloc (.cells #[.int .i64 x, .int .i64 y] 3)).cell? ⟨W.heap.size, 1, none⟩ = some (.int .i64 y) := by
  have hh : (W.alloc (.cells #[.int .i64 x, .int .i64 y] 3)).heap[W.heap.size]? = some (.cells #[.int .i64 x, .int .i64 y] 3) := World.alloc_heap_new _ _
  constructor
  · unfold World.cell?; simp only [hh]; rfl
  · unfold World.cell?; simp only [hh]; rfl

theorem field_hi (lo hi : Int) (w : World) : (Instr.field 116 (bnd lo hi) 1).run Tryz.prog w = .ok (.int .i64 hi) w := by kernel_rfl
theorem field_lo (lo hi : Int) (w : World) : (Instr.field 116 (bnd lo hi) 0).run Tryz.prog w = .ok (.int .i64 lo) w := by kernel_rfl

set_option maxRecDepth 100000 in
set_option maxHeartbeats 1000000 in
theorem compare_any (s bm : Nat) (L : List C) (a b : ByteArray) (w : World) (h2 : w.cell? ⟨s, 2, none⟩ = some (.map (some bm))) (hm : MapRel Tryz.prog 9 w bm (CRel L)) (ha : a.size ≤ maxLen) (hb : b.size ≤ maxLen) :
    Calls Tryz.prog 124 #[ptr s, .string a, .string b] w fun e w' => e = .returned (.int .i64 (cmpK L a b)) ∧ w' = (w.alloc (.cells #[.int .i64 (cmpI (hiOf L b) (hiOf L a)), .int .i64 (cmpS a b)] 3)).drewN 1 := by
  have la := look_one (w := w.drew) (hm.of_heap rfl) ha
  have lb := look_one (w := w.drew) (hm.of_heap rfl) hb
  have HM := Lib.hid hm
  have fa := field_hi (loOf L a) (hiOf L a) w.drew
  have fb := field_hi (loOf L b) (hiOf L b) w.drew
  have h2' : w.drew.cell? ⟨s, 2, none⟩ = some (.map (some bm)) := h2
  clear hm ha hb h2
  go_enter Tryz.func124, Tryz.ntmps124
  go_wp2_with fail
  refine wp_region_still_tail 18 (by kernel_rfl) (by kernel_rfl) ?_
  simp only [List.take_succ_cons, List.take_zero, List.drop_succ_cons, List.drop_zero]
  change wpStill _ _ w.drew _ _ _
  iterate 14 still_step
  still_call (cmp_int' _ _ _)
  iterate 2 still_step
  still_call (cmp_str' _ _ _)
  refine wpStill_nil ?_
  obtain ⟨hc0, hc1⟩ := ints_cell w.drew (cmpI (hiOf L b) (hiOf L a)) (cmpS a b)
  go_wp2_with (go_at_call 108; refine (cmp_or _ 2 _ _ _ hc0 hc1).mono ?_; rintro e w' ⟨rfl, rfl⟩)
  go_ret
  exact ⟨rfl, rfl⟩
end Go.Proofs.YtplkmbfeeegaiaaGreatDoor.Sk

/-
  The order of keys.
-/
namespace Go.Proofs.YtplkmbfeeegaiaaGreatDoor.Sk
open Go.RowKit

theorem toList_inj {s t : ByteArray} (e : s.toList = t.toList) : s = t := by
  rw [ByteArray.toList_eq, ByteArray.toList_eq] at e
  cases s; cases t
  simp at e
  rw [e]

theorem less_iff (a b : List UInt8) : Op.bytesLess a b = true ↔ a < b := by rw [bytesLess_eq]; simp
theorem lt_total (a b : List UInt8) : a < b ∨ a = b ∨ b < a := by
  by_cases h : a < b
  · exact .inl h
  · by_cases h2 : b < a
    · exact .inr (.inr h2)
    · exact .inr (.inl (List.le_antisymm (List.not_lt.1 h2) (List.not_lt.1 h)))
theorem lt_irr (a : List UInt8) : ¬ a < a := List.lt_irrefl a
theorem lt_tr {a b c : List UInt8} (h1 : a < b) (h2 : b < c) : a < c := List.lt_trans h1 h2

/-- a comes before b. -/
def Bef (L : List C) (a b : ByteArray) : Prop := hiOf L b < hiOf L a ∨ (hiOf L b = hiOf L a ∧ a.toList < b.toList)

theorem cmpS_cases (a b : ByteArray) : (cmpS a b = -1 ∧ a.toList < b.toList) ∨ (cmpS a b = 0 ∧ a = b) ∨ (cmpS a b = 1 ∧ b.toList < a.toList) := by
  unfold cmpS
  by_cases h1 : Op.bytesLess a.toList b.toList = true
  · rw [if_pos h1]; exact .inl ⟨rfl, (less_iff _ _).1 h1⟩
  · rw [if_neg h1]
    have h1' : ¬ a.toList < b.toList := fun h => h1 ((less_iff _ _).2 h)
    by_cases h2 : (a.toList == b.toList) = true
    · rw [if_pos h2]; exact .inr (.inl ⟨rfl, toList_inj (by simpa using h2)⟩)
    · rw [if_neg h2]
      have h2' : a.toList ≠ b.toList := by simpa using h2
      rcases lt_total a.toList b.toList with h | h | h
      · exact absurd h h1'
      · exact absurd h h2'
      · exact .inr (.inr ⟨rfl, h⟩)
theorem cmpI_cases (a b : Int) : (cmpI a b = -1 ∧ a < b) ∨ (cmpI a b = 0 ∧ a = b) ∨ (cmpI a b = 1 ∧ b < a) := by
  unfold cmpI
  split
  · exact .inl ⟨rfl, by assumption⟩
  · split
    · exact .inr (.inr ⟨rfl, by assumption⟩)
    · exact .inr (.inl ⟨rfl, by omega⟩)
theorem cmpK_cases (L : List C) (a b : ByteArray) : (cmpK L a b = -1 ∧ Bef L a b) ∨ (cmpK L a b = 0 ∧ a = b) ∨ (cmpK L a b = 1 ∧ Bef L b a) := by
  unfold cmpK orI Bef
  rcases cmpI_cases (hiOf L b) (hiOf L a) with ⟨e, h⟩ | ⟨e, h⟩ | ⟨e, h⟩
  · rw [e]; exact .inl ⟨rfl, .inl h⟩
  · rw [e, if_pos rfl]
    rcases cmpS_cases a b with ⟨e2, h2⟩ | ⟨e2, h2⟩ | ⟨e2, h2⟩
    · rw [e2]; exact .inl ⟨rfl, .inr ⟨h, h2⟩⟩
    · rw [e2]; exact .inr (.inl ⟨rfl, h2⟩)
    · rw [e2]; exact .inr (.inr ⟨rfl, .inr ⟨h.symm, h2⟩⟩)
  · rw [e]; exact .inr (.inr ⟨rfl, .inl h⟩)
theorem Bef.trans {L : List C} {a b c : ByteArray} (h1 : Bef L a b) (h2 : Bef L b c) : Bef L a c := by
  unfold Bef at *
  rcases h1 with h1 | ⟨h1, g1⟩
  · rcases h2 with h2 | ⟨h2, g2⟩
    · left; omega
    · left; omega
  · rcases h2 with h2 | ⟨h2, g2⟩
    · left; omega
    · right; exact ⟨by omega, lt_tr g1 g2⟩
theorem Bef.irrefl {L : List C} {a : ByteArray} (h : Bef L a a) : False := by
  unfold Bef at h
  rcases h with h | ⟨_, h⟩
  · omega
  · exact lt_irr _ h
theorem cmpK_neg {L : List C} {a b : ByteArray} : cmpK L a b < 0 ↔ Bef L a b := by
  rcases cmpK_cases L a b with ⟨e, h⟩ | ⟨e, h⟩ | ⟨e, h⟩
  · rw [e]; exact ⟨fun _ => h, fun _ => by decide⟩
  · rw [e]; exact ⟨fun h => by omega, fun h' => by rw [h] at h'; exact absurd h' (fun h => h.irrefl)⟩
  · rw [e]; exact ⟨fun h => by omega, fun h' => absurd (h.trans h') (fun h => h.irrefl)⟩
theorem cmpK_pos {L : List C} {a b : ByteArray} : 0 < cmpK L a b ↔ Bef L b a := by
  rcases cmpK_cases L a b with ⟨e, h⟩ | ⟨e, h⟩ | ⟨e, h⟩
  · rw [e]; exact ⟨fun h => by omega, fun h' => absurd (h.trans h') (fun h => h.irrefl)⟩
  · rw [e]; exact ⟨fun h => by omega, fun h' => by rw [h] at h'; exact absurd h' (fun h => h.irrefl)⟩
  · rw [e]; exact ⟨fun _ => h, fun _ => by decide⟩
theorem cmpK_zero {L : List C} {a b : ByteArray} : cmpK L a b = 0 ↔ a = b := by
  rcases cmpK_cases L a b with ⟨e, h⟩ | ⟨e, h⟩ | ⟨e, h⟩
  · rw [e]; exact ⟨fun h => by omega, fun h' => by rw [h'] at h; exact absurd h (fun h => h.irrefl)⟩
  · exact ⟨fun _ => h, fun _ => e⟩
  · rw [e]; exact ⟨fun h => by omega, fun h' => by rw [h'] at h; exact absurd h (fun h => h.irrefl)⟩
end Go.Proofs.YtplkmbfeeegaiaaGreatDoor.Sk

/-
  last.
-/
namespace Go.Proofs.YtplkmbfeeegaiaaGreatDoor.Sk
open Go.RowKit

/-- The sketch at s: its capacity, its total, its counters. -/
structure SkAt (w : World) (s bm : Nat) (cap tot : Int) (L : List C) : Prop where
  c0 : w.cell? ⟨s, 0, none⟩ = some (.int .i64 cap)
  c1 : w.cell? ⟨s, 1, none⟩ = some (.int .i64 tot)
  c2 : w.cell? ⟨s, 2, none⟩ = some (.map (some bm))
  fz : ∀ o, w.frozen? ⟨s, o, none⟩ = false
  map : MapRel Tryz.prog 9 w bm (CRel L)
  keys : (L.map C.key).Nodup
  ks : ∀ x ∈ L, x.key.size ≤ maxLen

theorem SkAt.ne {w : World} {s bm : Nat} {cap tot : Int} {L : List C} (h : SkAt w s bm cap tot L) : s ≠ bm := h.map.not_cell h.c0
theorem SkAt.lt {w : World} {s bm : Nat} {cap tot : Int} {L : List C} (h : SkAt w s bm cap tot L) : s < w.heap.size ∧ bm < w.heap.size := ⟨World.block_lt_of_cell? _ _ h.c0, h.map.lt⟩
theorem SkAt.keep {w w' : World} {s bm : Nat} {cap tot : Int} {L : List C} {A : Nat → Prop} (h : SkAt w s bm cap tot L) (k : Keep A w w') (h1 : ¬ A s) (h2 : ¬ A bm) : SkAt w' s bm cap tot L :=
  ⟨k.cell h.c0 h1, k.cell h.c1 h1, k.cell h.c2 h1, fun o => (World.frozen?_of_block (w := w) (a := ⟨s, o, none⟩) (k.block _ h.lt.1 h1)).trans (h.fz o), h.map.of_heap (k.block _ h.lt.2 h2), h.keys, h.ks⟩


theorem compare_sk {w : World} {s bm : Nat} {cap tot : Int} {L : List C} (h : SkAt w s bm cap tot L) (a b : ByteArray) (ha : a.size ≤ maxLen) (hb : b.size ≤ maxLen) :
    Calls Tryz.prog 124 #[ptr s, .string a, .string b] w fun e w' => e = .returned (.int .i64 (cmpK L a b)) ∧ Keep (fun _ => False) w w' :=
  (compare_any s bm L a b w h.c2 h.map ha hb).mono fun _ _ ⟨h1, h2⟩ => ⟨h1, by rw [h2]; exact ((Keep.refl _ w).alloc _).drewN 1⟩

set_option maxRecDepth 100000 in
set_option maxHeartbeats 400000 in
theorem later_first (key : ByteArray) (bf bs bo : Nat) (w : World) (hf : w.cell? ⟨bf, 0, none⟩ = some (.bool true)) :
    Calls Tryz.prog 123 #[.string key, ptr bf, ptr bs, ptr bo] w fun e w' => e = .returned (.bool true) ∧ Keep (fun _ => False) w w' := by
  go_enter Tryz.func123, Tryz.ntmps123
  go_wp2_with fail
  go_ret
  exact ⟨rfl, Keep.refl _ _⟩
set_option maxRecDepth 100000 in
set_option maxHeartbeats 400000 in
theorem later_more {w : World} {s bm : Nat} {cap tot : Int} {L : List C} (h : SkAt w s bm cap tot L) (key out : ByteArray) (bf bs bo : Nat) (hf : w.cell? ⟨bf, 0, none⟩ = some (.bool false)) (hs : w.cell? ⟨bs, 0, none⟩ = some (ptr s)) (ho : w.cell? ⟨bo, 0, none⟩ = some (.string out)) (hk : key.size ≤ maxLen) (hok : out.size ≤ maxLen) :
    Calls Tryz.prog 123 #[.string key, ptr bf, ptr bs, ptr bo] w fun e w' => e = .returned (.bool (decide (0 < cmpK L key out))) ∧ Keep (fun _ => False) w w' := by
  have H := Lib.hid h
  clear h
  go_enter Tryz.func123, Tryz.ntmps123
  go_wp2_with fail
  with_reducible refine (compare_sk H.out key out hk hok).mono ?_
  rintro e w' ⟨rfl, k⟩
  have K := Lib.hid k
  clear k
  go_wp2_with fail
  go_ret
  exact ⟨rfl, K.out⟩

/-- out is the last one of the counters S. -/
def IsLast (L S : List C) (out : ByteArray) : Prop := out ∈ S.map C.key ∧ ∀ x ∈ S, cmpK L x.key out ≤ 0

def encC (x : C) : Value × Value := (.string x.key, bnd x.lo x.hi)

/-- The loop of last: S has been seen, l is to come. -/
structure LastR (w : World) (s bm r : Nat) (cap tot : Int) (L S l : List C) (wr : World) : Prop where
  k : Keep (fun _ => False) w wr
  rg : Ranging Tryz.prog 9 wr bm r (CRel L) (l.map encC)
  pm : L.Perm (S ++ l)
  bs : wr.cell? ⟨w.heap.size, 0, none⟩ = some (ptr s)
  bo : ∃ out, wr.cell? ⟨w.heap.size + 1, 0, none⟩ = some (.string out) ∧ out.size ≤ maxLen ∧ (S ≠ [] → IsLast L S out)
  bf : wr.cell? ⟨w.heap.size + 2, 0, none⟩ = some (.bool S.isEmpty)
  fo : wr.frozen? ⟨w.heap.size + 1, 0, none⟩ = false
  ff : wr.frozen? ⟨w.heap.size + 2, 0, none⟩ = false

def LastPost (w : World) (L : List C) (e : Ending) (w' : World) : Prop := ∃ out, e = .returned (.string out) ∧ Keep (fun _ => False) w w' ∧ (L ≠ [] → IsLast L L out) ∧ out.size ≤ maxLen

theorem encC_key {x : C} {k v : Value} (h : encC x = (k, v)) : k = .string x.key ∧ v = bnd x.lo x.hi := by
  unfold encC at h
  cases h
  exact ⟨rfl, rfl⟩

abbrev lastW (w : World) (s : Nat) : World := ((w.alloc (.cells #[ptr s] 56)).alloc (.cells #[.string ⟨#[]⟩] 9)).alloc (.cells #[.bool true] 4)

theorem perm_of_mem {α : Type} : ∀ {A B : List α}, A.Nodup → B.Nodup → (∀ x, x ∈ A ↔ x ∈ B) → A.Perm B
  | [], B, _, _, h => by
    cases B with
    | nil => exact List.Perm.refl _
    | cons b r => exact absurd ((h b).2 (by simp)) (by simp)
  | a :: A, B, hA, hB, h => by
    obtain ⟨X, Y, rfl⟩ := List.append_of_mem ((h a).1 (by simp))
    rw [List.nodup_cons] at hA
    have hp : (X ++ a :: Y).Perm (a :: (X ++ Y)) := List.perm_middle
    have hB' := hp.nodup_iff.1 hB
    rw [List.nodup_cons] at hB'
    refine (List.Perm.cons a (perm_of_mem hA.2 hB'.2 (fun x => ?_))).trans hp.symm
    have h1 := h x
    rw [hp.mem_iff] at h1
    simp only [List.mem_cons] at h1
    constructor
    · intro hx
      rcases h1.1 (.inr hx) with e | e
      · subst e; exact absurd hx hA.1
      · exact e
    · intro hx
      rcases h1.2 (.inr hx) with e | e
      · subst e; exact absurd hx hB'.1
      · exact e

/-- A nodup list that reads as the counters is a permutation of them. -/
theorem list_of_rel {L : List C} (hn : (L.map C.key).Nodup) {left : List (Value × Value)} (h1 : (left.map (·.1)).Nodup) (h2 : ∀ k v, (k, v) ∈ left ↔ CRel L k v) : (L.map encC).Perm left := by
  have nd1 : left.Nodup := by
    have : ∀ (l : List (Value × Value)), (l.map (·.1)).Nodup → l.Nodup := by
      intro l
      induction l with
      | nil => intro _; exact List.nodup_nil
      | cons a r ih =>
        intro h
        rw [List.map_cons, List.nodup_cons] at h
        exact List.nodup_cons.2 ⟨fun hm => h.1 (List.mem_map_of_mem hm), ih h.2⟩
    exact this _ h1
  have nd2 : (L.map encC).Nodup := by
    have : ∀ (l : List C), (l.map C.key).Nodup → (l.map encC).Nodup := by
      intro l
      induction l with
      | nil => intro _; exact List.nodup_nil
      | cons a r ih =>
        intro h
        rw [List.map_cons, List.nodup_cons] at h ⊢
        refine ⟨fun hm => h.1 ?_, ih h.2⟩
        obtain ⟨y, hy, e⟩ := List.mem_map.1 hm
        unfold encC at e
        injection e with e1 e2
        rw [← Value.string.inj e1]
        exact List.mem_map_of_mem hy
    exact this _ hn
  refine perm_of_mem nd2 nd1 (fun p => ?_)
  obtain ⟨k, v⟩ := p
  rw [h2, List.mem_map]
  constructor
  · rintro ⟨x, hx, e⟩
    obtain ⟨e1, e2⟩ := encC_key e
    exact ⟨x, hx, e1, e2⟩
  · rintro ⟨x, hx, e1, e2⟩
    exact ⟨x, hx, by rw [e1, e2]; rfl⟩

theorem new_cell (W : World) (v : Value) (t : TypeId) : (W.alloc (.cells #[v] t)).cell? ⟨W.heap.size, 0, none⟩ = some v ∧ (W.alloc (.cells #[v] t)).frozen? ⟨W.heap.size, 0, none⟩ = false := by
  have hh : (W.alloc (.cells #[v] t)).heap[W.heap.size]? = some (.cells #[v] t) := World.alloc_heap_new _ _
  constructor
  · unfold World.cell?; simp only [hh]; rfl
  · unfold World.frozen?; simp only [hh]; simp

theorem LastR.begin {w : World} {s bm : Nat} {cap tot : Int} {L : List C} {ob : Obj} (rg : Ranging Tryz.prog 9 ((lastW w s).alloc ob) bm (lastW w s).heap.size (CRel L) (L.map encC)) :
    LastR w s bm (lastW w s).heap.size cap tot L [] L ((lastW w s).alloc ob) := by
  have n1 := new_cell w (ptr s) 56
  have n2 := new_cell (w.alloc (.cells #[ptr s] 56)) (.string ⟨#[]⟩) 9
  have n3 := new_cell ((w.alloc (.cells #[ptr s] 56)).alloc (.cells #[.string ⟨#[]⟩] 9)) (.bool true) 4
  have e2 : (w.alloc (.cells #[ptr s] 56)).heap.size = w.heap.size + 1 := by simp
  have e3 : ((w.alloc (.cells #[ptr s] 56)).alloc (.cells #[.string ⟨#[]⟩] 9)).heap.size = w.heap.size + 2 := by simp
  rw [e2] at n2
  rw [e3] at n3
  have k1 : Keep (fun _ => False) (w.alloc (.cells #[ptr s] 56)) ((lastW w s).alloc ob) := (((Keep.refl _ _).alloc _).alloc _).alloc _
  have k2 : Keep (fun _ => False) ((w.alloc (.cells #[ptr s] 56)).alloc (.cells #[.string ⟨#[]⟩] 9)) ((lastW w s).alloc ob) := ((Keep.refl _ _).alloc _).alloc _
  have k3 : Keep (fun _ => False) (lastW w s) ((lastW w s).alloc ob) := (Keep.refl _ _).alloc _
  exact ⟨((((Keep.refl _ w).alloc _).alloc _).alloc _).alloc _, rg, List.Perm.refl _, k1.cell n1.1 (fun h => h), ⟨_, k2.cell n2.1 (fun h => h), by unfold maxLen; simp [ByteArray.size], fun h => absurd rfl h⟩, k3.cell n3.1 (fun h => h),
    (k2.frozen (by rw [e3]; omega) (fun h => h) 0).trans n2.2, (k3.frozen (World.block_lt_of_cell? _ _ n3.1) (fun h => h) 0).trans n3.2⟩

theorem perm_step {L S X Y : List C} {x : C} (h : L.Perm (S ++ (X ++ x :: Y))) : L.Perm ((S ++ [x]) ++ (X ++ Y)) := by
  refine h.trans ?_
  rw [List.append_assoc]
  exact List.Perm.append_left S List.perm_middle

/-- A later one has come: it is kept. -/
theorem LastR.put {w : World} {s bm : Nat} {cap tot : Int} {L S X Y : List C} {x : C} {w2 : World} (hs : SkAt w s bm cap tot L) (k : Keep (fun _ => False) w w2) (rg : Ranging Tryz.prog 9 w2 bm (w.heap.size + 1 + 1 + 1) (CRel L) ((X ++ Y).map encC)) (pm : L.Perm (S ++ (X ++ x :: Y)))
    (bs : w2.cell? ⟨w.heap.size, 0, none⟩ = some (ptr s)) {u v : Value} (bo : w2.cell? ⟨w.heap.size + 1, 0, none⟩ = some u) (bf : w2.cell? ⟨w.heap.size + 1 + 1, 0, none⟩ = some v) (fo : w2.frozen? ⟨w.heap.size + 1, 0, none⟩ = false) (ff : w2.frozen? ⟨w.heap.size + 1 + 1, 0, none⟩ = false) (hl : IsLast L (S ++ [x]) x.key) :
    LastR w s bm (w.heap.size + 1 + 1 + 1) cap tot L (S ++ [x]) (X ++ Y) ((w2.setCell ⟨w.heap.size + 1, 0, none⟩ (.string x.key)).setCell ⟨w.heap.size + 1 + 1, 0, none⟩ (.bool false)) := by
  have hbm := hs.lt.2
  have e : ∀ i, i ≠ w.heap.size + 1 → i ≠ w.heap.size + 1 + 1 → ((w2.setCell ⟨w.heap.size + 1, 0, none⟩ (.string x.key)).setCell ⟨w.heap.size + 1 + 1, 0, none⟩ (.bool false)).heap[i]? = w2.heap[i]? := fun i h1 h2 => by
    rw [heap_set_ne (by simpa using h2), heap_set_ne (by simpa using h1)]
  refine ⟨(k.setCell _ (.inr (show w.heap.size ≤ w.heap.size + 1 by omega))).setCell _ (.inr (show w.heap.size ≤ w.heap.size + 1 + 1 by omega)), rg.of_heap (e _ (by omega) (by omega)) (e _ (by omega) (by omega)), perm_step pm, ?_, ⟨x.key, ?_, hs.ks x (pm.mem_iff.2 (by simp)), fun _ => hl⟩, ?_, ?_, ?_⟩
  · rw [cell_set_blk (by omega), cell_set_blk (by omega)]; exact bs
  · rw [cell_set_blk (by omega)]; exact cell_set_same bo
  · have : (S ++ [x]).isEmpty = false := by cases S <;> rfl
    rw [this]
    exact cell_set_same (by rw [cell_set_blk (by omega)]; exact bf)
  · rw [World.frozen?_setCell, World.frozen?_setCell]; exact fo
  · rw [World.frozen?_setCell, World.frozen?_setCell]; exact ff

set_option maxRecDepth 100000 in
set_option maxHeartbeats 400000 in
theorem last_sk {w : World} {s bm : Nat} {cap tot : Int} {L : List C} (h : SkAt w s bm cap tot L) : Calls Tryz.prog 88 #[ptr s] w (LastPost w L) := by
  have k3 : Keep (fun _ => False) w (lastW w s) := (((Keep.refl _ w).alloc _).alloc _).alloc _
  have h3 := h.keep k3 (fun h => h) (fun h => h)
  have hc2 := h3.c2
  obtain ⟨ob, left, hrun, hrg, hnd, hmem⟩ := h3.map.range (t := 109) Tryz.underlying109
  have hrg' := hrg.perm (list_of_rel h.keys hnd hmem).symm
  have HR : Hid (LastR w s bm (lastW w s).heap.size cap tot L [] L ((lastW w s).alloc ob)) := Lib.hid (LastR.begin hrg')
  have HSZ : Hid ((lastW w s).heap.size = w.heap.size + 1 + 1 + 1) := Lib.hid (by simp)
  have H := Lib.hid h
  clear h h3 hrg hrg' hnd hmem k3
  go_enter Tryz.func88, Tryz.ntmps88
  go_wp2_with fail
  generalize (lastW w s).alloc ob = W4 at *
  rw [HSZ.out] at HR
  clear hrun hc2 HSZ
  go_loopw [5] (fun _ wr => ∃ S l, LastR w s bm (w.heap.size + 1 + 1 + 1) cap tot L S l wr) (fun _ wr => wr.rangeLeft bm (w.heap.size + 1 + 1 + 1))
  case atStart => exact ⟨[], L, HR.out⟩
  case round =>
    obtain ⟨S, l, hr⟩ := hrel
    obtain ⟨out, hbo, hok, hlast⟩ := hr.bo
    have HLA := Lib.hid hlast
    have HRR := Lib.hid hr
    have hbs := hr.bs
    have hbf := hr.bf
    clear hlast
    rcases hr.rg.next 0 with ⟨h0, hrun⟩ | ⟨k, v, left', w', hp, hR, hrun, hrg', kk, hsz, hen⟩
    · have hl : l = [] := by simpa using h0
      subst hl
      have hfo := hr.fo
      have HF : Hid (∀ e w', e = Ending.returned (.string out) → Keep (fun _ => False) w w' → LastPost w L e w') := Lib.hid (fun e w' he hk => ⟨out, he, hk, fun hL => by
        have hpm := hr.pm
        rw [List.append_nil] at hpm
        have hS : S ≠ [] := fun h => by rw [h] at hpm; exact hL (List.perm_nil.1 hpm)
        obtain ⟨h1, h2⟩ := HLA.out hS
        exact ⟨(hpm.map C.key).mem_iff.2 h1, fun x hx => h2 x (hpm.mem_iff.1 hx)⟩, hok⟩)
      have HKK := Lib.hid hr.k
      clear hr hbs hbf h0
      go_wp2_with fail
      have hcell : (wr.setCell ⟨w.heap.size + 1, 0, none⟩ (.string out)).cell? ⟨w.heap.size + 1, 0, none⟩ = some (.string out) := cell_set_same hbo
      exact bodyPost_ret (v := .string out) (by simp [results, Tryz.results88, go_sem, hcell]) rfl (HF.out _ _ rfl (HKK.out.setCell _ (.inr (by simp))))
    · obtain ⟨x, hxl, hxe⟩ := List.mem_map.1 (hp.mem_iff.2 (List.mem_cons_self))
      obtain ⟨rfl, rfl⟩ := encC_key hxe
      obtain ⟨X, Y, rfl⟩ := List.append_of_mem hxl
      have hp2 : ((X ++ Y).map encC).Perm left' := by
        have h1 : ((X ++ x :: Y).map encC).Perm (encC x :: (X ++ Y).map encC) := (List.perm_middle).map encC
        have h2 := h1.symm.trans hp
        exact List.Perm.cons_inv h2
      have hrg2 := hrg'.perm hp2.symm
      have HRG := Lib.hid hrg2
      have HKK := Lib.hid kk
      have HHK := Lib.hid (H.out.ks x (hr.pm.mem_iff.2 (by simp)))
      have nr : ∀ i, i < w.heap.size + 1 + 1 + 1 → ¬ i = w.heap.size + 1 + 1 + 1 := fun i hi => by omega
      replace hbs := kk.cell hbs (nr _ (by omega))
      replace hbf := kk.cell hbf (nr _ (by omega))
      replace hbo := kk.cell hbo (nr _ (by omega))
      have HFO : Hid (w'.frozen? ⟨w.heap.size + 1, 0, none⟩ = false) := Lib.hid ((World.frozen?_of_block (w := wr) (a := ⟨w.heap.size + 1, 0, none⟩) (kk.block _ (World.block_lt_of_cell? _ _ HRR.out.bo.choose_spec.1) (nr (w.heap.size + 1) (by omega)))).trans hr.fo)
      have HFF : Hid (w'.frozen? ⟨w.heap.size + 2, 0, none⟩ = false) := Lib.hid ((World.frozen?_of_block (w := wr) (a := ⟨w.heap.size + 2, 0, none⟩) (kk.block _ (World.block_lt_of_cell? _ _ hr.bf) (nr (w.heap.size + 2) (by omega)))).trans hr.ff)
      have HKW : Hid (Keep (fun _ => False) w w') := Lib.hid (hr.k.trans' kk (fun i hi => .inr (by omega)))
      clear hp hp2 hrg' hrg2 hxl hxe hR kk
      clear hr
      have hbf' : w'.cell? ⟨w.heap.size + 1 + 1, 0, none⟩ = some (.bool S.isEmpty) := hbf
      cases hS : S.isEmpty with
      | true =>
        rw [hS] at hbf' hbf
        go_wp2_with fail
        with_reducible refine (later_first _ _ _ _ _ hbf').mono ?_
        rintro e w2 ⟨rfl, k2⟩
        have hbo2 := k2.cell hbo (fun h => h)
        have hbf2 := k2.cell hbf' (fun h => h)
        have hfo2 : w2.frozen? ⟨w.heap.size + 1, 0, none⟩ = false := (World.frozen?_of_block (w := w') (a := ⟨w.heap.size + 1, 0, none⟩) (k2.block _ (World.block_lt_of_cell? _ _ hbo) (fun h => h))).trans HFO.out
        have hff2 : w2.frozen? ⟨w.heap.size + 1 + 1, 0, none⟩ = false := (World.frozen?_of_block (w := w') (a := ⟨w.heap.size + 2, 0, none⟩) (k2.block _ (World.block_lt_of_cell? _ _ hbf) (fun h => h))).trans HFF.out
        have hS0 : S = [] := by simpa using hS
        have HPUT := Lib.hid (LastR.put H.out (HKW.out.trans k2) (HRG.out.of_heap (k2.block _ HRG.out.lt.2.1 (fun h => h)) (k2.block _ HRG.out.lt.1 (fun h => h))) HRR.out.pm (k2.cell hbs (fun h => h)) hbo2 hbf2 hfo2 hff2 (by rw [hS0]; exact ⟨by simp, fun y hy => by rw [List.nil_append, List.mem_singleton] at hy; rw [hy, cmpK_zero.2 rfl]; decide⟩))
        go_wp2_with fail
        go_roundw
        case rel => exact ⟨S ++ [x], X ++ Y, HPUT.out⟩
        case measure => rw [HPUT.out.rg.left_eq, HRR.out.rg.left_eq]; simp
      | false =>
        rw [hS] at hbf' hbf
        have hS0 : S ≠ [] := fun h => by rw [h] at hS; cases hS
        obtain ⟨hla1, hla2⟩ := HLA.out hS0
        have HL1 := Lib.hid hla1
        have HL2 := Lib.hid hla2
        have HSW := Lib.hid (H.out.keep HKW.out (fun h => h) (fun h => h))
        clear hla1 hla2
        go_wp2_with fail
        with_reducible refine (later_more HSW.out _ out _ _ _ hbf' hbs hbo HHK.out hok).mono ?_
        rintro e w2 ⟨rfl, k2⟩
        have hbo2 := k2.cell hbo (fun h => h)
        have hbf2 := k2.cell hbf' (fun h => h)
        have hfo2 : w2.frozen? ⟨w.heap.size + 1, 0, none⟩ = false := (World.frozen?_of_block (w := w') (a := ⟨w.heap.size + 1, 0, none⟩) (k2.block _ (World.block_lt_of_cell? _ _ hbo) (fun h => h))).trans HFO.out
        have hff2 : w2.frozen? ⟨w.heap.size + 1 + 1, 0, none⟩ = false := (World.frozen?_of_block (w := w') (a := ⟨w.heap.size + 2, 0, none⟩) (k2.block _ (World.block_lt_of_cell? _ _ hbf) (fun h => h))).trans HFF.out
        have HRG2 := Lib.hid (HRG.out.of_heap (k2.block _ HRG.out.lt.2.1 (fun h => h)) (k2.block _ HRG.out.lt.1 (fun h => h)))
        have HK2 := Lib.hid (HKW.out.trans k2)
        have hbs2 := k2.cell hbs (fun h => h)
        by_cases hpos : 0 < cmpK L x.key out
        · have hdec : decide (0 < cmpK L x.key out) = true := by simpa using hpos
          have HPUT := Lib.hid (LastR.put H.out HK2.out HRG2.out HRR.out.pm hbs2 hbo2 hbf2 hfo2 hff2 ⟨by simp, fun y hy => by
            rcases List.mem_append.1 hy with hy | hy
            · have h1 := HL2.out y hy
              apply Classical.byContradiction
              intro h2
              have h3 := cmpK_pos.1 (show 0 < cmpK L y.key x.key by omega)
              have h4 := cmpK_pos.2 ((cmpK_pos.1 hpos).trans h3)
              omega
            · rw [List.mem_singleton] at hy; rw [hy, cmpK_zero.2 rfl]; decide⟩)
          rw [hdec]
          clear hdec hpos
          go_wp2_with fail
          go_roundw
          case rel => exact ⟨S ++ [x], X ++ Y, HPUT.out⟩
          case measure => rw [HPUT.out.rg.left_eq, HRR.out.rg.left_eq]; simp
        · have hdec : decide (0 < cmpK L x.key out) = false := by simpa using hpos
          have HSK : Hid (LastR w s bm (w.heap.size + 1 + 1 + 1) cap tot L (S ++ [x]) (X ++ Y) w2) := Lib.hid ⟨HK2.out, HRG2.out, perm_step HRR.out.pm, hbs2, ⟨out, hbo2, hok, fun _ => ⟨by rw [List.map_append]; exact List.mem_append_left _ HL1.out, fun y hy => by
            rcases List.mem_append.1 hy with hy | hy
            · exact HL2.out y hy
            · rw [List.mem_singleton] at hy; rw [hy]; omega⟩⟩, by rw [show (S ++ [x]).isEmpty = false by cases S <;> rfl]; exact hbf2, hfo2, hff2⟩
          rw [hdec]
          clear hdec hpos
          go_wp2_with fail
          go_roundw
          case rel => exact ⟨S ++ [x], X ++ Y, HSK.out⟩
          case measure => rw [HSK.out.rg.left_eq, HRR.out.rg.left_eq]; simp
end Go.Proofs.YtplkmbfeeegaiaaGreatDoor.Sk

/-
  holders of package replicate.
-/
namespace Go.Proofs.YtplkmbfeeegaiaaGreatDoor
open Go.RowKit Go.Shelf

set_option maxRecDepth 100000 in
set_option maxHeartbeats 8000000 in
theorem holders_any (v : Value) (ep : Int) (l : List Mb) (ow : List Int) (key : ByteArray) (n : Int) (w : World) (h : Rng w v ep l ow) (hk : key.size ≤ 1000) (hT : Tab w) : Calls Tryz.prog 81 #[v, .string key, .int .i64 n] w (HoldPost w (holdV ep l ow key n)) := by
  have HRG := Lib.hid h
  have HT := Lib.hid hT
  have HGN : Hid (0 < w.heap.size) := Lib.hid (World.block_lt_of_cell? _ _ (hT 0 (by decide)))
  obtain ⟨hb0, vm, vo, rfl, hm0, ho0⟩ := h
  obtain ⟨hmn, hmb, ma, mc, mb, mo, rfl, hmc, hma, hmcell⟩ := hm0
  obtain ⟨oa, on, oc, rfl⟩ : ∃ a n c, vo = .slice a n c := by obtain ⟨a, c, b, off, h, _⟩ := ho0.at_; exact ⟨_, _, _, h⟩
  obtain ⟨xs, hxs⟩ : ∃ xs, holdV ep l ow key n = xs := ⟨_, rfl⟩
  rw [hxs]
  have HXS := Lib.hid hxs
  have HMC := Lib.hid hmcell
  have HMA := Lib.hid hma
  obtain ⟨ln, hln⟩ : ∃ n, l.length = n := ⟨_, rfl⟩
  have HLN := Lib.hid hln
  rw [hln] at hmn hmc HRG HMA ⊢
  clear hxs hmcell hmb ho0 hma hln hT hb0
  have HX := Lib.hid (Box3.new w (.int .i64 ep) (.slice ma ln mc) (.slice oa on oc) 27)
  have HK0 : Hid (Keep (fun _ => False) w (w.alloc (.cells #[.int .i64 ep, .slice ma ln mc, .slice oa on oc] 27))) := Lib.hid ((Keep.refl _ w).alloc _)
  go_enter Tryz.func81, Tryz.ntmps81
  go_upto_region 1 with (fail)
  generalize w.alloc (.cells #[.int .i64 ep, .slice ma ln mc, .slice oa on oc] 27) = W0 at *
  generalize hz : w.heap.size = z at HX ⊢
  have HZ := Lib.hid hz
  clear hz
  obtain ⟨x0, x1, x2, xf⟩ := HX.out
  go_wp2_with fail
  clear x0 x1 x2 xf
  with_reducible refine (validRing_any _ ep l ow W0 (HRG.out.kept HK0.out)).mono ?_
  rintro e W1 ⟨rfl, k1⟩
  have HX1 := Lib.hid (HX.out.kept k1)
  have HK1 := Lib.hid (HK0.out.trans k1)
  clear k1 HX HK0
  cases hval : validRB ep l ow with
  | false =>
    have HE : Hid (xs = []) := Lib.hid (by rw [← HXS.out]; unfold holdV; rw [hval]; rfl)
    go_wp2_with fail
    go_ret
    exact ⟨_, rfl, by rw [HE.out]; exact Its.nil _, HK1.out⟩
  | true =>
    have HOK := Lib.hid ((validRB_iff ep l ow).1 hval)
    have HEX : Hid (xs = (if n < 1 ∨ 3 < n then [ownerOf ow key] else holdC (rkOf key) l (ownerOf ow key) n.toNat)) := Lib.hid (by rw [← HXS.out]; unfold holdV; rw [if_pos hval])
    clear HXS hval
    obtain ⟨x0, x1, x2, xf⟩ := HX1.out
    go_wp2_with fail
    clear x0 x1 x2 xf
    with_reducible refine (owner_any _ ep l ow W1 (HRG.out.kept HK1.out) key (by omega) (HT.out.kept HK1.out)).mono ?_
    rintro e W2 ⟨rfl, k2⟩
    have HX2 := Lib.hid (HX1.out.kept k2)
    have HK2 := Lib.hid (HK1.out.trans k2)
    clear k2 HX1 HK1
    have HV : Hid (VL l) := Lib.hid HOK.out.2.2.1
    have HOM : Hid (ownerOf ow key ∈ l.map Mb.node) := Lib.hid (owner_mem HOK.out key)
    have HOB : Hid (I64 (ownerOf ow key)) := Lib.hid (by
      obtain ⟨m, hm, e⟩ := List.mem_map.1 HOM.out
      have := HV.out.ok m hm
      unfold okMb at this
      rw [← e]; unfold I64; omega)
    generalize ownerOf ow key = o at *
    have HA : Hid ((W2.alloc (.cells #[.int .i64 o] 3)).ownsRow w.heap.size 3 1 (.slice (some ⟨W2.heap.size, 0, none⟩) 1 1) 1 ([o].map (fun x => Value.int .i64 x))) := Lib.hid (World.ownsRow_lit (base := w.heap.size) (e := 3) (size := 1) W2 #[.int .i64 o] 1 HK2.out.size (by decide) rfl)
    have KA1 : Keep (fun _ => False) W2 (W2.alloc (.cells #[.int .i64 o] 3)) := (Keep.refl _ W2).alloc _
    have KA2 : Keep (fun _ => False) (W2.alloc (.cells #[.int .i64 o] 3)) ((W2.alloc (.cells #[.int .i64 o] 3)).alloc (.cells #[.slice (some ⟨W2.heap.size, 0, none⟩) 1 1] 22)) := (Keep.refl _ _).alloc _
    have HN7 := Lib.hid (Sk.new_cell (W2.alloc (.cells #[.int .i64 o] 3)) (.slice (some ⟨W2.heap.size, 0, none⟩) 1 1) 22)
    rw [World.size_alloc] at HN7
    have HA3 := Lib.hid (ownsRow_keep HA.out KA2 (fun _ _ h => h))
    have HK3 := Lib.hid (HK2.out.trans (KA1.trans KA2))
    have HX3 := Lib.hid (HX2.out.kept (KA1.trans KA2))
    have HZ2 : Hid (z < W2.heap.size) := Lib.hid HX2.out.lt
    clear KA1 KA2 HA HX2
    go_upto_region 4 with (fail)
    generalize (W2.alloc (.cells #[.int .i64 o] 3)).alloc (.cells #[.slice (some ⟨W2.heap.size, 0, none⟩) 1 1] 22) = W3 at *
    generalize hs2 : W2.heap.size = s2 at *
    clear hs2
    by_cases hout : n < 1 ∨ 3 < n
    · have HE : Hid (xs = [o]) := Lib.hid (by rw [HEX.out, if_pos hout])
      have c7 := HN7.out.1
      have HIT : Hid (Its W3 (.slice (some ⟨s2, 0, none⟩) 1 1) xs) := Lib.hid (by rw [HE.out]; exact its_owns HA3.out (by simp) (by intro x hx; rw [List.mem_singleton] at hx; subst hx; exact HOB.out))
      by_cases hn1 : n < 1
      · go_wp2_with fail
        go_ret
        exact ⟨_, rfl, HIT.out, HK3.out⟩
      · have hn3 : 3 < n := by omega
        go_wp2_with fail
        go_ret
        exact ⟨_, rfl, HIT.out, HK3.out⟩
    · obtain ⟨nn, rfl⟩ : ∃ q : Nat, n = q := ⟨n.toNat, by omega⟩
      have HE : Hid (xs = holdC (rkOf key) l o nn) := Lib.hid (by rw [HEX.out, if_neg hout, Int.toNat_natCast])
      have hn1 : ¬ (nn : Int) < 1 := by omega
      have hn3 : ¬ 3 < (nn : Int) := by omega
      have hnn : nn ≤ 3 := by omega
      clear hout HEX
      have KM1 : Keep (fun _ => False) W3 (W3.alloc (.map #[] 0)) := (Keep.refl _ W3).alloc _
      have KM2 : Keep (fun _ => False) (W3.alloc (.map #[] 0)) ((W3.alloc (.map #[] 0)).alloc (.cells #[.map (some W3.heap.size)] 148)) := (Keep.refl _ _).alloc _
      have HMB := Lib.hid ((MapB.made W3).kept KM2)
      have HN9 := Lib.hid (Sk.new_cell (W3.alloc (.map #[] 0)) (.map (some W3.heap.size)) 148)
      rw [World.size_alloc] at HN9
      have HS3 : Hid (s2 + 1 < W3.heap.size) := Lib.hid (World.block_lt_of_cell? _ _ HN7.out.1)
      have HK4 := Lib.hid (HK3.out.trans (KM1.trans KM2))
      have HX4 := Lib.hid (HX3.out.kept (KM1.trans KM2))
      have HA4 := Lib.hid (ownsRow_keep HA3.out (KM1.trans KM2) (fun _ _ h => h))
      have HN74 : Hid (((W3.alloc (.map #[] 0)).alloc (.cells #[.map (some W3.heap.size)] 148)).cell? ⟨s2 + 1, 0, none⟩ = some (.slice (some ⟨s2, 0, none⟩) 1 1) ∧ ((W3.alloc (.map #[] 0)).alloc (.cells #[.map (some W3.heap.size)] 148)).frozen? ⟨s2 + 1, 0, none⟩ = false) := Lib.hid ⟨(KM1.trans KM2).cell HN7.out.1 (fun h => h), ((KM1.trans KM2).frozen (World.block_lt_of_cell? _ _ HN7.out.1) (fun h => h) 0).trans HN7.out.2⟩
      have hmm := @run_makeMap Tryz.prog
      clear KM1 KM2 HK3 HX3 HA3 HN7
      go_upto_region 8 with (fail)
      clear hmm hn1 hn3
      generalize (W3.alloc (.map #[] 0)).alloc (.cells #[.map (some W3.heap.size)] 148) = W5 at *
      generalize hbm : W3.heap.size = bm at *
      clear hbm
      have HS5 : Hid (bm + 1 < W5.heap.size) := Lib.hid (World.block_lt_of_cell? _ _ HN9.out.1)
      obtain ⟨x0, x1, x2, xf⟩ := HX4.out
      go_wp2_with fail
      clear x0 x1 x2 xf
      go_loopg [8, 34] ln (fun gh v8 v34 wr => ∃ k : Nat, gh + k = ln ∧ v34 = .int .i64 k ∧ OwnC w (cdsOf (rkOf key) (l.take k)) v8 wr ∧ Keep (fun j => j = bm) W5 wr ∧ MapB wr bm (regK l o k) ∧ ∀ j, v8.ownBlock = some j → W5.heap.size ≤ j)
      case atStart => exact ⟨0, by omega, rfl, OwnC.nil HK4.out, Keep.refl _ _, by rw [regK_zero]; exact HMB.out, fun j e => by cases e⟩
      case round =>
        clear HMB
        obtain ⟨k, hk0, rfl, how, hkeep, hmb, hob⟩ := hrel
        have HOW := Lib.hid how
        have HKE := Lib.hid hkeep
        have HMB := Lib.hid hmb
        have HOB8 := Lib.hid hob
        clear how hkeep hmb hob
        by_cases hlt : k < ln
        · obtain ⟨m, hm⟩ : ∃ m, l[k]? = some m := ⟨_, List.getElem?_eq_getElem (by have := HLN.out; omega)⟩
          obtain rfl := HMA.out (by omega)
          have c0 := HOW.out.1.cell (HMC.out k m hm).1 (fun h => h)
          have c1 := HOW.out.1.cell (HMC.out k m hm).2.1 (fun h => h)
          have c2 := HOW.out.1.cell (HMC.out k m hm).2.2 (fun h => h)
          have hok := HV.out.ok m (List.mem_of_getElem? hm)
          unfold okMb at hok
          have hkz : (k : Int) < (ln : Int) := by omega
          have hkn : (0 : Int) ≤ (k : Int) := by omega
          have HSN : Hid (cdsOf (rkOf key) (l.take (k + 1)) = cdsOf (rkOf key) (l.take k) ++ [⟨m, rkOf key m.node⟩]) := Lib.hid (by unfold cdsOf; rw [List.take_add_one, hm, Option.toList_some, List.map_append]; rfl)
          have HRS := Lib.hid (regK_succ (o := o) hm)
          clear hm
          obtain ⟨mn, mr, mw⟩ := m
          simp only [] at c0 c1 c2 hok
          have HT3 := Lib.hid (three_cell wr (.int .i64 mn) (.int .i64 mr) (.int .i64 mw) 35)
          have HKA : Hid (Keep (fun _ => False) wr (wr.alloc (.cells #[.int .i64 mn, .int .i64 mr, .int .i64 mw] 35))) := Lib.hid ((Keep.refl _ wr).alloc _)
          have HOW2 := Lib.hid (HOW.out.keep HKA.out)
          have HKE2 : Hid (Keep (fun j => j = bm) W5 (wr.alloc (.cells #[.int .i64 mn, .int .i64 mr, .int .i64 mw] 35))) := Lib.hid (HKE.out.trans (HKA.out.mono (fun _ h => h.elim)))
          have HMB2 := Lib.hid (HMB.out.kept HKA.out)
          have HU : Hid (∀ j, u8.ownBlock = some j → j ≠ wr.heap.size ∧ W5.heap.size ≤ j) := Lib.hid (fun j e => by have := (HOW.out.2.lt j e).2; exact ⟨by omega, HOB8.out j e⟩)
          have HSZR : Hid (W5.heap.size ≤ wr.heap.size) := Lib.hid HKE.out.size
          go_upto_region 11 with (fail)
          clear c0 c1 c2 HOW HKE HMB HKA
          generalize wr.alloc (.cells #[.int .i64 mn, .int .i64 mr, .int .i64 mw] 35) = V0 at *
          generalize wr.heap.size = zc at *
          obtain ⟨mq, rfl⟩ : ∃ mq : Nat, mn = mq := ⟨mn.toNat, by omega⟩
          have hm100 : mq < 100 := by omega
          have hd1 : (dig mq).size ≤ 2 := dig_size hm100
          have HF := Lib.hid HOW2.out.form
          have HOT : Hid (∀ p : KA (fun j => u8.ownBlock = some j) V0, Tab p.val) := Lib.hid (fun p => (HT.out.kept HOW2.out.1).keep p.k (fun e => by have := (HOW2.out.2.lt _ e).1; have := HGN.out; omega))
          have cz0 : ∀ p : KA (fun j => u8.ownBlock = some j) V0, p.val.cell? ⟨zc, 0, none⟩ = some (.int .i64 mq) := fun p => p.k.cell HT3.out.1 (fun e => (HU.out zc e).1 rfl)
          have cz1 : ∀ p : KA (fun j => u8.ownBlock = some j) V0, p.val.cell? ⟨zc, 1, none⟩ = some (.int .i64 mr) := fun p => p.k.cell HT3.out.2.1 (fun e => (HU.out zc e).1 rfl)
          have cz2 : ∀ p : KA (fun j => u8.ownBlock = some j) V0, p.val.cell? ⟨zc, 2, none⟩ = some (.int .i64 mw) := fun p => p.k.cell HT3.out.2.2.1 (fun e => (HU.out zc e).1 rfl)
          have HD1 : Hid (∀ W, Calls Tryz.prog 71 #[.int .i64 (mq : Int)] W fun e w' => e = .returned (.string (dig mq)) ∧ w' = W) := Lib.hid (fun W => (itoa_small mq hm100 W).mono fun e w' h => ⟨h.1, h.2.symm⟩)
          have HPT : Hid (∀ W, inKA (fun j => u8.ownBlock = some j) V0 W → Calls Tryz.prog 70 #[.string ((key ++ ⟨#[32]⟩) ++ dig mq)] W fun e w' => e = .returned (.int .i64 (rkOf key (mq : Int))) ∧ w' = W) := Lib.hid (fun W hW => by
            obtain ⟨p, rfl⟩ := hW
            have ht := HOT.out p
            exact (point_any _ (rkT_size (n := (mq : Int)) hk (by rw [Int.toNat_natCast]; omega)) p.val ht).mono fun e w' h => ⟨h.1, h.2.symm⟩)
          generalize dig mq = dm at *
          have hz1 : ¬ (9223372036854775807 < key.size + 1) := by omega
          have hz2 : ¬ (9223372036854775807 < key.size + 1 + dm.size) := by omega
          refine wp_region_walk [(true, 0), (true, 1), (true, 2), (true, 3), (true, 4), (true, 5), (true, 6), (true, 7), (true, 8), (true, 9), (false, 10), (false, 11), (false, 12)] (inKA (fun j => u8.ownBlock = some j) V0) (by kernel_rfl) (by kernel_rfl) ?_
          iterate 6 (refine walkW_read rfl (fun K hK => ?_); go_simp; refine hK _ ?_; clear hK K)
          refine walkW_read rfl (fun K hK => ?_)
          go_simp
          refine ⟨_, fun p => HD1.out p.val, hK _ ?_⟩; clear hK K
          refine walkW_read rfl (fun K hK => ?_); go_simp; refine hK _ ?_; clear hK K
          refine walkW_read rfl (fun K hK => ?_)
          go_simp
          refine ⟨_, fun p => HPT.out p.val ⟨p, rfl⟩, hK _ ?_⟩; clear hK K
          refine walkW_read rfl (fun K hK => ?_); go_simp; refine hK _ ?_; clear hK K
          clear cz0 cz1 cz2 hz1 hz2 hd1
          have HK1' : Hid (Keep (fun j => u8.ownBlock = some j) V0 V0.drew) := Lib.hid (Keep.refl _ V0).drew
          have HKD : Hid (Keep (fun _ => False) V0 V0.drew) := Lib.hid (Keep.refl _ V0).drew
          have HOWD := Lib.hid (HOW2.out.keep HKD.out)
          have HZV : Hid (zc < V0.heap.size) := Lib.hid (World.block_lt_of_cell? _ _ HT3.out.1)
          have HZVD : Hid (V0.drew.heap.size = V0.heap.size) := Lib.hid rfl
          generalize V0.drew = V1 at *
          obtain ⟨v', V3, hr, how3, hk3, hob3⟩ := HOWD.out.snoc ⟨⟨(mq : Int), mr, mw⟩, rkOf key (mq : Int)⟩ (by unfold cdsOf; rw [List.length_map, List.length_take]; have := HV.out.len; omega)
          simp only [] at hr
          rw [← HSN.out] at how3
          have HOW3 := Lib.hid how3
          have HK3 : Hid (Keep (fun j => u8.ownBlock = some j) V0 V3) := Lib.hid (HK1'.out.trans hk3)
          have HKB3 : Hid (Keep (fun j => j = bm) W5 V3) := Lib.hid (HKE2.out.trans' HK3.out (fun j e => .inr (HU.out j e).2))
          have HMB3 : Hid (MapB V3 bm (regK l o k)) := Lib.hid (HMB2.out.keep HK3.out (fun e => by have := (HU.out _ e).2; have := HS5.out; omega))
          have HT33 : Hid (V3.cell? ⟨zc, 0, none⟩ = some (.int .i64 mq) ∧ V3.cell? ⟨zc, 1, none⟩ = some (.int .i64 mr)) := Lib.hid ⟨HK3.out.cell HT3.out.1 (fun e => (HU.out _ e).1 rfl), HK3.out.cell HT3.out.2.1 (fun e => (HU.out _ e).1 rfl)⟩
          have HOB3 : Hid (∀ j, v'.ownBlock = some j → W5.heap.size ≤ j) := Lib.hid (fun j e => by
            rcases hob3 with h | h
            · exact HOB8.out j (h.symm.trans e)
            · rw [h] at e
              cases e
              have := HZV.out
              have := HZVD.out
              have := HSZR.out
              omega)
          have HR := Lib.hid hr
          clear how3 hk3 hob3 hr HT3 HOB8
          generalize rkOf key (mq : Int) = pn at *
          refine walkW_do rfl (inKA.of HK1'.out) (fun K hK => ?_)
          go_simp
          refine hK _ _ ?_; clear hK K
          refine walkW_do rfl (inKA.of (HK1'.out.alloc _)) (fun K hK => ?_)
          rw [if_pos (by first | rfl | simp [Region.wanted])]
          refine wp_app (.tmp 38) (.tmp 48) 147 rfl rfl rfl HR.out (hK _ _ ?_); clear hK K
          refine walkW_do rfl (inKA.of HK3.out) (fun K hK => ?_)
          go_simp
          refine hK _ _ ?_; clear hK K
          refine ⟨inKA.of HK3.out, ?_⟩
          have c7 := HKB3.out.cell HN74.out.1 (fun e => by have h5 : s2 + 1 = bm := e; have := HS3.out; have := HS5.out; omega)
          have ca : V3.cell? ⟨s2, 0, none⟩ = some (.int .i64 o) := HKB3.out.cell (HA4.out.cells rfl 0 _ rfl) (fun e => by have h5 : s2 = bm := e; have := HS3.out; omega)
          have cz := HT33.out.1
          clear HK1' HKD HOWD HK3 HOW2 HKE2 HMB2 HR HPT HOT HD1
          obtain ⟨beq, hbeq⟩ : ∃ b, ((mq : Int) == o) = b := ⟨_, rfl⟩
          have HBEQ := Lib.hid hbeq
          go_upto_region 12 with (fail)
          go_quiet (fail)
          clear c7 ca cz
          have HKN : Hid (Keep (fun _ => False) V3 (V3.drewN nq)) := Lib.hid ((Keep.refl (fun _ => False) V3).drewN nq)
          have HOW4 := Lib.hid (HOW3.out.keep HKN.out)
          have HKB4 : Hid (Keep (fun j => j = bm) W5 (V3.drewN nq)) := Lib.hid (HKB3.out.trans (HKN.out.mono (fun _ h => h.elim)))
          have HMB4 := Lib.hid (HMB3.out.kept HKN.out)
          have cz1 := HKN.out.cell HT33.out.2 (fun h => h)
          clear HOW3 HKB3 HMB3 HT33 HKN
          generalize V3.drewN nq = V4 at *
          cases beq with
          | true =>
            have hmo : (mq : Int) = o := by simpa using HBEQ.out
            have c9 := HKB4.out.cell HN9.out.1 (fun e => by have h5 : bm + 1 = bm := e; omega)
            obtain ⟨es', ck', hup, hmu⟩ := HMB4.out.update (n := mr) (by unfold I64; omega)
            have HMU : Hid (MapB (V4.putObj bm (.map es' ck')) bm (regK l o (k + 1))) := Lib.hid (by
              rw [HRS.out]
              have : (fun r => regK l o k r || (decide ((⟨(mq : Int), mr, mw⟩ : Mb).node = o) && decide ((⟨(mq : Int), mr, mw⟩ : Mb).region = r))) = fun r => regK l o k r || decide (r = mr) := by
                funext r
                simp only []
                rw [decide_eq_true hmo, Bool.true_and]
                congr 1
                exact decide_eq_decide.2 ⟨fun e => e.symm, fun e => e.symm⟩
              rw [this]; exact hmu)
            have HKP : Hid (Keep (fun j => j = bm) V4 (V4.putObj bm (.map es' ck'))) := Lib.hid ((Keep.refl (fun j => j = bm) V4).putObj _ (.inl rfl))
            have HOWP : Hid (OwnC w (cdsOf (rkOf key) (l.take (k + 1))) v' (V4.putObj bm (.map es' ck'))) := Lib.hid ⟨HOW4.out.1.trans' HKP.out (fun j e => .inr (by have := HS3.out; have := HZ.out; have := HZ2.out; omega)), ownsRow_keep HOW4.out.2 HKP.out (fun b hb e => by have := HOB3.out b hb; have := HS5.out; omega)⟩
            have HKB5 := Lib.hid (HKB4.out.trans HKP.out)
            clear hmu
            go_wp2_with fail
            clear hup c9 cz1
            go_roundg (gk - 1)
            case rel => exact ⟨k + 1, by omega, by go_num, HOWP.out, HKB5.out, HMU.out, HOB3.out⟩
            case measure => omega
          | false =>
            have hmo : ¬ (mq : Int) = o := by simpa using HBEQ.out
            have HMU : Hid (MapB V4 bm (regK l o (k + 1))) := Lib.hid (by
              rw [HRS.out]
              have : (fun r => regK l o k r || (decide ((⟨(mq : Int), mr, mw⟩ : Mb).node = o) && decide ((⟨(mq : Int), mr, mw⟩ : Mb).region = r))) = regK l o k := by
                funext r
                simp only []
                rw [decide_eq_false hmo, Bool.false_and, Bool.or_false]
              rw [this]; exact HMB4.out)
            clear cz1
            go_wp2_with fail
            go_roundg (gk - 1)
            case rel => exact ⟨k + 1, by omega, by go_num, HOW4.out, HKB4.out, HMU.out, HOB3.out⟩
            case measure => omega
        · obtain rfl : k = ln := by omega
          have HALL : Hid (OwnC w (cdsOf (rkOf key) l) u8 wr) := Lib.hid (by
            have := HOW.out
            rwa [List.take_of_length_le (by have := HLN.out; omega)] at this)
          have HMU : Hid (MapB wr bm (usedC l [o])) := Lib.hid (by rw [← regK_all (l := l) (o := o) (k := k) (by have := HLN.out; omega)]; exact HMB.out)
          have HSRT := Lib.hid (sort_cands HALL.out HV.out)
          clear HOW HMB
          have hkz : ¬ (k : Int) < (k : Int) := by omega
          go_upto_region 15 with (fail)
          clear hkz
          go_wp2_with fail
          with_reducible refine HSRT.out.mono ?_
          rintro e W7 ⟨rfl, S, hsp, hsw, hcd, hk7⟩
          have HU8 : Hid (∀ j, u8.ownBlock = some j → bm + 1 < j) := Lib.hid (fun j e => by have := HOB8.out j e; have := HS5.out; omega)
          have HSP := Lib.hid hsp
          have HSW := Lib.hid hsw
          have HCD := Lib.hid hcd
          have HK57 : Hid (Keep (fun j => j = bm) W5 W7) := Lib.hid (HKE.out.trans' hk7 (fun j e => .inr (HOB8.out j e)))
          have HC7 : Hid (W7.cell? ⟨s2 + 1, 0, none⟩ = some (.slice (some ⟨s2, 0, none⟩) 1 1) ∧ W7.frozen? ⟨s2 + 1, 0, none⟩ = false) := Lib.hid ⟨HK57.out.cell HN74.out.1 (fun e => by have h5 : s2 + 1 = bm := e; have := HS3.out; omega), (HK57.out.frozen (World.block_lt_of_cell? _ _ HN74.out.1) (fun e => by have h5 : s2 + 1 = bm := e; have := HS3.out; omega) 0).trans HN74.out.2⟩
          have HC9 : Hid (W7.cell? ⟨bm + 1, 0, none⟩ = some (.map (some bm))) := Lib.hid (HK57.out.cell HN9.out.1 (fun e => by have h5 : bm + 1 = bm := e; omega))
          have HM7 : Hid (MapB W7 bm (usedC l [o])) := Lib.hid (HMU.out.keep hk7 (fun e => by have := HU8.out _ e; omega))
          have HOI7 : Hid (OwnI w [o] (.slice (some ⟨s2, 0, none⟩) 1 1) W7) := Lib.hid ⟨HALL.out.1.trans' hk7 (fun j e => .inr (HALL.out.2.lt j e).1), ownsRow_keep HA4.out HK57.out (fun b hb e => by cases hb; have h5 : s2 = bm := e; have := HS3.out; omega)⟩
          clear hsp hsw hcd hk7 HALL HMU HSRT HKE HN74 HA4 HN9
          go_upto_region 18 with (fail)
          go_wp2_with fail
          go_loopg [65] nn (fun gh v65 wr => ∃ (k : Nat) (vo : Value), gh + k = nn ∧ v65 = .int .i64 k ∧ OwnI w (holdC (rkOf key) l o k) vo wr ∧ (wr.cell? ⟨s2 + 1, 0, none⟩ = some vo ∧ wr.frozen? ⟨s2 + 1, 0, none⟩ = false) ∧ MapB wr bm (usedC l (holdC (rkOf key) l o k)) ∧ Keep (fun j => j = s2 ∨ j = s2 + 1 ∨ j = bm) W7 wr ∧ ∀ j, vo.ownBlock = some j → j = s2 ∨ W7.heap.size ≤ j)
          case atStart => exact ⟨0, _, by omega, rfl, HOI7.out, HC7.out, HM7.out, Keep.refl _ _, fun j e => by cases e; exact .inl rfl⟩
          case round =>
            clear HOI7 HC7 HM7
            obtain ⟨i, vo, hi, rfl, hoi, hc7, hmb, hkeep, hob⟩ := hrel
            have HOI := Lib.hid hoi
            have HC7 := Lib.hid hc7
            have HMB := Lib.hid hmb
            have HKE := Lib.hid hkeep
            have HOV := Lib.hid hob
            clear hoi hc7 hmb hkeep hob
            by_cases hlt : i < nn
            · have hiz : (i : Int) < (nn : Int) := by omega
              have HST : Hid (holdC (rkOf key) l o (i + 1) = stepC (rkOf key) l (holdC (rkOf key) l o i)) := Lib.hid rfl
              have HHL : Hid ((holdC (rkOf key) l o i).length ≤ 100) := Lib.hid (by have h1 := (holdC_ok (rk := rkOf key) HV.out.asc HOM.out i).len; have h2 := HV.out.len; omega)
              have HHB : Hid (∀ x ∈ holdC (rkOf key) l o i, I64 x) := Lib.hid (fun x hx => by
                obtain ⟨m, hm, e⟩ := List.mem_map.1 ((holdC_ok (rk := rkOf key) HV.out.asc HOM.out i).mem x hx)
                have := HV.out.ok m hm
                unfold okMb at this
                rw [← e]; unfold I64; omega)
              generalize holdC (rkOf key) l o i = out at *
              have HCDR : Hid (∀ V, Keep (fun j => j = s2 ∨ j = s2 + 1 ∨ j = bm) W7 V → Cds V u8 (cdsOf (rkOf key) S)) := Lib.hid (fun V k => HCD.out.keep k (fun b hb e => by have := HU8.out b hb; have := HS3.out; rcases e with e | e | e <;> omega))
              have HHS : Hid (∀ V, Keep (fun _ => False) wr V → Hs V (s2 + 1) (bm + 1) out (usedC l out)) := Lib.hid (fun V k => ⟨⟨vo, k.cell HC7.out.1 (fun h => h), (its_owns HOI.out.2 (by have := HHL.out; omega) HHB.out).kept k⟩, bm, k.cell (HKE.out.cell HC9.out (fun e => by have := HS3.out; rcases e with e | e | e <;> omega)) (fun h => h), HMB.out.kept k⟩)
              have HF1 : Hid (∀ V v, Keep (fun _ => False) wr V → Cnds V v (s2 + 1) (bm + 1) [true, false] → Calls Tryz.prog 119 #[u8, v] V (FirstPost V ((selC (rkOf key) l (fun m => freeC out m && awayC l out m)).map (fun m => (⟨m, rkOf key m.node⟩ : Cd))))) := Lib.hid (fun V v k hc => by
                rw [← find_both HV.out.asc HSP.out HSW.out [true, false] _ (cond_two l out)]
                exact first_any u8 v [true, false] (cdsOf (rkOf key) S) V (HHS.out V k) (HCDR.out V (HKE.out.trans (k.mono (fun _ h => h.elim)))) hc (by decide))
              have HF2 : Hid (∀ V v, Keep (fun _ => False) wr V → Cnds V v (s2 + 1) (bm + 1) [true] → Calls Tryz.prog 119 #[u8, v] V (FirstPost V ((selC (rkOf key) l (freeC out)).map (fun m => (⟨m, rkOf key m.node⟩ : Cd))))) := Lib.hid (fun V v k hc => by
                rw [← find_both HV.out.asc HSP.out HSW.out [true] _ (cond_one l out)]
                exact first_any u8 v [true] (cdsOf (rkOf key) S) V (HHS.out V k) (HCDR.out V (HKE.out.trans (k.mono (fun _ h => h.elim)))) hc (by decide))
              have HL1 : Hid (Cnds (wr.alloc (.cells #[Value.func (.func 117) #[] #[.pointer (some ⟨s2 + 1, 0, none⟩)], Value.func (.func 118) #[] #[.pointer (some ⟨bm + 1, 0, none⟩)]] 154)) (.slice (some ⟨wr.heap.size, 0, none⟩) 2 2) (s2 + 1) (bm + 1) [true, false]) := Lib.hid ⟨wr.heap.size, 2, rfl, by decide, fun j x hj => by
                have hh : (wr.alloc (.cells #[Value.func (.func 117) #[] #[.pointer (some ⟨s2 + 1, 0, none⟩)], Value.func (.func 118) #[] #[.pointer (some ⟨bm + 1, 0, none⟩)]] 154)).heap[wr.heap.size]? = some (.cells #[Value.func (.func 117) #[] #[.pointer (some ⟨s2 + 1, 0, none⟩)], Value.func (.func 118) #[] #[.pointer (some ⟨bm + 1, 0, none⟩)]] 154) := World.alloc_heap_new _ _
                rcases j with _ | _ | j
                · simp at hj; subst hj; unfold World.cell?; simp only [hh]; rfl
                · simp at hj; subst hj; unfold World.cell?; simp only [hh]; rfl
                · simp at hj⟩
              have HKL : Hid (Keep (fun _ => False) wr (wr.alloc (.cells #[Value.func (.func 117) #[] #[.pointer (some ⟨s2 + 1, 0, none⟩)], Value.func (.func 118) #[] #[.pointer (some ⟨bm + 1, 0, none⟩)]] 154))) := Lib.hid ((Keep.refl _ wr).alloc _)
              go_upto_region 20 with (fail)
              go_wp2_with fail
              generalize wr.alloc (.cells #[Value.func (.func 117) #[] #[.pointer (some ⟨s2 + 1, 0, none⟩)], Value.func (.func 118) #[] #[.pointer (some ⟨bm + 1, 0, none⟩)]] 154) = V0 at *
              generalize wr.heap.size = zl at HL1 ⊢
              with_reducible refine (HF1.out V0 _ HKL.out HL1.out).mono ?_
              rintro e V1 ⟨vr, rfl, hvx, ⟨a0, a1, a2, a3, rfl⟩, kf⟩
              have HKV1 := Lib.hid (HKL.out.trans kf)
              clear kf HL1 HKL
              have HB1 := Lib.hid (four_cell V1 (.int .i64 a0) (.int .i64 a1) (.int .i64 a2) (.int .i64 a3) 150)
              have HKV : Hid (Keep (fun _ => False) wr (V1.alloc (.cells #[.int .i64 a0, .int .i64 a1, .int .i64 a2, .int .i64 a3] 150))) := Lib.hid (HKV1.out.alloc _)
              have HZBS : Hid (wr.heap.size ≤ V1.heap.size) := Lib.hid HKV1.out.size
              go_upto_region 21 with (fail)
              generalize V1.alloc (.cells #[.int .i64 a0, .int .i64 a1, .int .i64 a2, .int .i64 a3] 150) = V at *
              generalize V1.heap.size = zb at *
              clear HKV1
              have HOIV := Lib.hid (HOI.out.keep HKV.out)
              have HC7V : Hid (V.cell? ⟨s2 + 1, 0, none⟩ = some vo ∧ V.frozen? ⟨s2 + 1, 0, none⟩ = false) := Lib.hid ⟨HKV.out.cell HC7.out.1 (fun h => h), (HKV.out.frozen (World.block_lt_of_cell? _ _ HC7.out.1) (fun h => h) 0).trans HC7.out.2⟩
              have HMBV := Lib.hid (HMB.out.kept HKV.out)
              have HKVV : Hid (Keep (fun j => j = s2 ∨ j = s2 + 1 ∨ j = bm) W7 V) := Lib.hid (HKE.out.trans (HKV.out.mono (fun _ h => h.elim)))
              cases hsel : selC (rkOf key) l (fun m => freeC out m && awayC l out m) with
              | some x =>
                rw [hsel] at hvx
                have hcd := hvx ⟨x, rkOf key x.node⟩ rfl
                have HNX : Hid (nextC (rkOf key) l out = some x) := Lib.hid (by unfold nextC; rw [hsel])
                have HXL : Hid (x ∈ l) := Lib.hid (selC_some HV.out.asc hsel).mem
                have HCB : Hid (V.cell? ⟨zb, 0, none⟩ = some (.int .i64 x.node) ∧ V.cell? ⟨zb, 1, none⟩ = some (.int .i64 x.region)) := Lib.hid (by
                  injection hcd with h1
                  injection h1 with h2
                  simp only [List.cons.injEq] at h2
                  rw [← h2.1, ← h2.2.1]
                  exact ⟨HB1.out.1, HB1.out.2.1⟩)
                simp only [Option.isSome_some]
                clear hvx hcd hsel HB1 HF1 HF2
                go_upto_region 24 with (fail)
                have HOUT : Hid (holdC (rkOf key) l o (i + 1) = out ++ [x.node]) := Lib.hid (by rw [HST.out]; unfold stepC; rw [HNX.out])
                have HUS : Hid (usedC l (out ++ [x.node]) = fun r => usedC l out r || decide (r = x.region)) := Lib.hid (usedC_snoc HV.out.asc HXL.out)
                have HXR : Hid (I64 x.region) := Lib.hid (by have := HV.out.ok x HXL.out; unfold okMb at this; unfold I64; omega)
                obtain ⟨v2, V2, hr, hoi2, hk2, hob2⟩ := HOIV.out.snoc x.node (by have := HHL.out; omega)
                obtain ⟨va, vn, vc, rfl, -⟩ := hoi2.slice
                have HR := Lib.hid hr
                have HZB : Hid (∀ j, vo.ownBlock = some j → j ≠ zb) := Lib.hid (fun j e => by have := (HOI.out.2.lt j e).2; have := HZBS.out; omega)
                have HOJ : Hid (∀ j, vo.ownBlock = some j → j ≠ s2 + 1 ∧ j ≠ bm ∧ j ≠ bm + 1) := Lib.hid (fun j e => by have h1 : bm + 1 < W7.heap.size := World.block_lt_of_cell? _ _ HC9.out; have := HS3.out; rcases HOV.out j e with h2 | h2 <;> omega)
                have c7 := HC7V.out.1
                have cb0 := HCB.out.1
                have c72 : V2.cell? ⟨s2 + 1, 0, none⟩ = some vo := hk2.cell HC7V.out.1 (fun e => (HOJ.out _ e).1 rfl)
                have f72 : V2.frozen? ⟨s2 + 1, 0, none⟩ = false := (hk2.frozen (World.block_lt_of_cell? _ _ HC7V.out.1) (fun e => (HOJ.out _ e).1 rfl) 0).trans HC7V.out.2
                have HK3 : Hid (Keep (fun j => j = s2 + 1) V2 (V2.setCell ⟨s2 + 1, 0, none⟩ (Value.slice va vn vc))) := Lib.hid ((Keep.refl (fun j => j = s2 + 1) V2).setCell (p := ⟨s2 + 1, 0, none⟩) _ (.inl rfl))
                have c93 : (V2.setCell ⟨s2 + 1, 0, none⟩ (Value.slice va vn vc)).cell? ⟨bm + 1, 0, none⟩ = some (.map (some bm)) := HK3.out.cell (hk2.cell (HKVV.out.cell HC9.out (fun e => by have := HS3.out; rcases e with e | e | e <;> omega)) (fun e => (HOJ.out _ e).2.2 rfl)) (fun e => by have h5 : bm + 1 = s2 + 1 := e; have := HS3.out; omega)
                have cb1 : (V2.setCell ⟨s2 + 1, 0, none⟩ (Value.slice va vn vc)).cell? ⟨zb, 1, none⟩ = some (.int .i64 x.region) := HK3.out.cell (hk2.cell HCB.out.2 (fun e => HZB.out _ e rfl)) (fun e => by have h5 : zb = s2 + 1 := e; have h6 := HZBS.out; have h7 := World.block_lt_of_cell? _ _ HC7.out.1; have h8 : s2 + 1 < wr.heap.size := h7; omega)
                have HC73 : Hid ((V2.setCell ⟨s2 + 1, 0, none⟩ (Value.slice va vn vc)).cell? ⟨s2 + 1, 0, none⟩ = some (Value.slice va vn vc) ∧ (V2.setCell ⟨s2 + 1, 0, none⟩ (Value.slice va vn vc)).frozen? ⟨s2 + 1, 0, none⟩ = false) := Lib.hid ⟨cell_set_same c72, by rw [World.frozen?_setCell]; exact f72⟩
                have HM3 : Hid (MapB (V2.setCell ⟨s2 + 1, 0, none⟩ (Value.slice va vn vc)) bm (usedC l out)) := Lib.hid ((HMBV.out.keep hk2 (fun e => (HOJ.out _ e).2.1 rfl)).keep HK3.out (fun e => by have h5 : bm = s2 + 1 := e; have := HS3.out; omega))
                have HOB2 : Hid (∀ j, (Value.slice va vn vc).ownBlock = some j → j = s2 ∨ W7.heap.size ≤ j) := Lib.hid (fun j e => by
                  rcases hob2 with h | h
                  · exact HOV.out j (h.symm.trans e)
                  · rw [h] at e
                    cases e
                    have h3 := HKVV.out.size
                    right
                    omega)
                have HKW3 : Hid (Keep (fun j => j = s2 ∨ j = s2 + 1 ∨ j = bm) W7 (V2.setCell ⟨s2 + 1, 0, none⟩ (Value.slice va vn vc))) := Lib.hid ((HKVV.out.trans' hk2 (fun j e => by rcases HOV.out j e with h | h; exact .inl (.inl h); exact .inr h)).trans (HK3.out.mono (fun j e => .inr (.inl e))))
                have HOI3 : Hid (OwnI w (out ++ [x.node]) (Value.slice va vn vc) (V2.setCell ⟨s2 + 1, 0, none⟩ (Value.slice va vn vc))) := Lib.hid ⟨hoi2.1.trans' HK3.out (fun j e => .inr (by have h5 : j = s2 + 1 := e; have := HZ.out; have := HZ2.out; omega)), ownsRow_keep hoi2.2 HK3.out (fun b hb e => by have h5 : b = s2 + 1 := e; have h1 : bm + 1 < W7.heap.size := World.block_lt_of_cell? _ _ HC9.out; have := HS3.out; rcases HOB2.out b hb with h2 | h2 <;> omega)⟩
                clear hr hoi2 hk2 hob2
                go_upto_region 25 with (at_builtin; refine wpList_app rfl (.tmp 85) (.tmp 89) 22 rfl rfl rfl HR.out ?_)
                clear c7 cb0 c72 f72 HR
                generalize V2.setCell ⟨s2 + 1, 0, none⟩ (Value.slice va vn vc) = V3 at *
                obtain ⟨es', ck', hup, hmu⟩ := HM3.out.update (n := x.region) HXR.out
                have HKP : Hid (Keep (fun j => j = bm) V3 (V3.putObj bm (.map es' ck'))) := Lib.hid ((Keep.refl (fun j => j = bm) V3).putObj _ (.inl rfl))
                have HMU : Hid (MapB (V3.putObj bm (.map es' ck')) bm (usedC l (out ++ [x.node]))) := Lib.hid (by rw [HUS.out]; exact hmu)
                have HC74 : Hid ((V3.putObj bm (.map es' ck')).cell? ⟨s2 + 1, 0, none⟩ = some (Value.slice va vn vc) ∧ (V3.putObj bm (.map es' ck')).frozen? ⟨s2 + 1, 0, none⟩ = false) := Lib.hid ⟨HKP.out.cell HC73.out.1 (fun e => by have h5 : s2 + 1 = bm := e; have := HS3.out; omega), (HKP.out.frozen (World.block_lt_of_cell? _ _ HC73.out.1) (fun e => by have h5 : s2 + 1 = bm := e; have := HS3.out; omega) 0).trans HC73.out.2⟩
                have HOI4 : Hid (OwnI w (holdC (rkOf key) l o (i + 1)) (Value.slice va vn vc) (V3.putObj bm (.map es' ck'))) := Lib.hid (by rw [HOUT.out]; exact ⟨HOI3.out.1.trans' HKP.out (fun j e => .inr (by have h5 : j = bm := e; have := HZ.out; have := HZ2.out; have := HS3.out; omega)), ownsRow_keep HOI3.out.2 HKP.out (fun b hb e => by have h5 : b = bm := e; have h1 : bm + 1 < W7.heap.size := World.block_lt_of_cell? _ _ HC9.out; have := HS3.out; rcases HOB2.out b hb with h2 | h2 <;> omega)⟩)
                have HMU4 : Hid (MapB (V3.putObj bm (.map es' ck')) bm (usedC l (holdC (rkOf key) l o (i + 1)))) := Lib.hid (by rw [HOUT.out]; exact HMU.out)
                have HKW4 := Lib.hid (HKW3.out.trans (HKP.out.mono (fun j e => .inr (.inr e))))
                clear hmu
                go_wp2_with fail
                clear hup c93 cb1
                go_roundg (nn - (i + 1))
                case rel => exact ⟨i + 1, (Value.slice va vn vc), by omega, by go_num, HOI4.out, HC74.out, HMU4.out, HKW4.out, HOB2.out⟩
                case measure => omega
              | none =>
                simp only [Option.isSome_none]
                have HSEL := Lib.hid hsel
                clear hvx hsel HF1
                have HL2 : Hid (Cnds (V.alloc (.cells #[Value.func (.func 117) #[] #[.pointer (some ⟨s2 + 1, 0, none⟩)]] 154)) (.slice (some ⟨V.heap.size, 0, none⟩) 1 1) (s2 + 1) (bm + 1) [true]) := Lib.hid ⟨V.heap.size, 1, rfl, by decide, fun j x hj => by
                  have hh : (V.alloc (.cells #[Value.func (.func 117) #[] #[.pointer (some ⟨s2 + 1, 0, none⟩)]] 154)).heap[V.heap.size]? = some (.cells #[Value.func (.func 117) #[] #[.pointer (some ⟨s2 + 1, 0, none⟩)]] 154) := World.alloc_heap_new _ _
                  rcases j with _ | j
                  · simp at hj; subst hj; unfold World.cell?; simp only [hh]; rfl
                  · simp at hj⟩
                have HKL2 : Hid (Keep (fun _ => False) V (V.alloc (.cells #[Value.func (.func 117) #[] #[.pointer (some ⟨s2 + 1, 0, none⟩)]] 154))) := Lib.hid ((Keep.refl _ V).alloc _)
                have HZBV : Hid (zb < V.heap.size) := Lib.hid (World.block_lt_of_cell? _ _ HB1.out.1)
                go_upto_region 22 with (fail)
                go_wp2_with fail
                generalize V.alloc (.cells #[Value.func (.func 117) #[] #[.pointer (some ⟨s2 + 1, 0, none⟩)]] 154) = V4 at *
                generalize V.heap.size = zl2 at HL2 ⊢
                with_reducible refine (HF2.out V4 _ (HKV.out.trans HKL2.out) HL2.out).mono ?_
                rintro e V5 ⟨vr, rfl, hvx, ⟨b0, b1, b2, b3, rfl⟩, kf⟩
                have HKV5 := Lib.hid (HKL2.out.trans kf)
                clear kf HL2 HKL2
                have z0 := HKV5.out.cell HB1.out.1 (fun h => h)
                have z1 := HKV5.out.cell HB1.out.2.1 (fun h => h)
                have z2 := HKV5.out.cell HB1.out.2.2.1 (fun h => h)
                have z3 := HKV5.out.cell HB1.out.2.2.2.1 (fun h => h)
                have zf : ∀ o, V5.frozen? ⟨zb, o, none⟩ = false := fun o => (HKV5.out.frozen (World.block_lt_of_cell? _ _ HB1.out.1) (fun h => h) o).trans (HB1.out.2.2.2.2 o)
                have HN4 : Hid (((((V5.setCell ⟨zb, 0, none⟩ (.int .i64 b0)).setCell ⟨zb, 1, none⟩ (.int .i64 b1)).setCell ⟨zb, 2, none⟩ (.int .i64 b2)).setCell ⟨zb, 3, none⟩ (.int .i64 b3)).cell? ⟨zb, 0, none⟩ = some (.int .i64 b0) ∧ ((((V5.setCell ⟨zb, 0, none⟩ (.int .i64 b0)).setCell ⟨zb, 1, none⟩ (.int .i64 b1)).setCell ⟨zb, 2, none⟩ (.int .i64 b2)).setCell ⟨zb, 3, none⟩ (.int .i64 b3)).cell? ⟨zb, 1, none⟩ = some (.int .i64 b1)) := Lib.hid (by
                  refine ⟨?_, ?_⟩
                  · rw [cell_set_off (by decide), cell_set_off (by decide), cell_set_off (by decide)]; exact cell_set_same z0
                  · rw [cell_set_off (by decide), cell_set_off (by decide)]; exact cell_set_same (by rw [cell_set_off (by decide)]; exact z1))
                have HKS : Hid (Keep (fun j => j = zb) V5 ((((V5.setCell ⟨zb, 0, none⟩ (.int .i64 b0)).setCell ⟨zb, 1, none⟩ (.int .i64 b1)).setCell ⟨zb, 2, none⟩ (.int .i64 b2)).setCell ⟨zb, 3, none⟩ (.int .i64 b3))) := Lib.hid (((((Keep.refl (fun j => j = zb) V5).setCell (p := ⟨zb, 0, none⟩) _ (.inl rfl)).setCell (p := ⟨zb, 1, none⟩) _ (.inl rfl)).setCell (p := ⟨zb, 2, none⟩) _ (.inl rfl)).setCell (p := ⟨zb, 3, none⟩) _ (.inl rfl))
                go_upto_region 23 with (fail)
                clear z0 z1 z2 z3 zf
                generalize (((V5.setCell ⟨zb, 0, none⟩ (.int .i64 b0)).setCell ⟨zb, 1, none⟩ (.int .i64 b1)).setCell ⟨zb, 2, none⟩ (.int .i64 b2)).setCell ⟨zb, 3, none⟩ (.int .i64 b3) = V6 at *
                have HKV6 : Hid (Keep (fun _ => False) wr V6) := Lib.hid ((HKV.out.trans HKV5.out).trans' HKS.out (fun j e => .inr (by have := HZBS.out; omega)))
                have HKVO := HKV
                clear HOIV HC7V HMBV HKVV
                have HOIV := Lib.hid (HOI.out.keep HKV6.out)
                have HC7V : Hid (V6.cell? ⟨s2 + 1, 0, none⟩ = some vo ∧ V6.frozen? ⟨s2 + 1, 0, none⟩ = false) := Lib.hid ⟨HKV6.out.cell HC7.out.1 (fun h => h), (HKV6.out.frozen (World.block_lt_of_cell? _ _ HC7.out.1) (fun h => h) 0).trans HC7.out.2⟩
                have HMBV := Lib.hid (HMB.out.kept HKV6.out)
                have HKVV : Hid (Keep (fun j => j = s2 ∨ j = s2 + 1 ∨ j = bm) W7 V6) := Lib.hid (HKE.out.trans (HKV6.out.mono (fun _ h => h.elim)))
                cases hs2 : selC (rkOf key) l (freeC out) with
                | some x =>
                  rw [hs2] at hvx
                  have hcd := hvx ⟨x, rkOf key x.node⟩ rfl
                  have HNX : Hid (nextC (rkOf key) l out = some x) := Lib.hid (by unfold nextC; rw [HSEL.out]; exact hs2)
                  have HXL : Hid (x ∈ l) := Lib.hid (selC_some HV.out.asc hs2).mem
                  have HCB : Hid (V6.cell? ⟨zb, 0, none⟩ = some (.int .i64 x.node) ∧ V6.cell? ⟨zb, 1, none⟩ = some (.int .i64 x.region)) := Lib.hid (by
                    injection hcd with h1
                    injection h1 with h2
                    simp only [List.cons.injEq] at h2
                    rw [← h2.1, ← h2.2.1]
                    exact HN4.out)
                  simp only [Option.isSome_some]
                  clear hvx hcd hs2 HB1 HF2 HSEL HN4
                  go_upto_region 24 with (fail)
                  have HOUT : Hid (holdC (rkOf key) l o (i + 1) = out ++ [x.node]) := Lib.hid (by rw [HST.out]; unfold stepC; rw [HNX.out])
                  have HUS : Hid (usedC l (out ++ [x.node]) = fun r => usedC l out r || decide (r = x.region)) := Lib.hid (usedC_snoc HV.out.asc HXL.out)
                  have HXR : Hid (I64 x.region) := Lib.hid (by have := HV.out.ok x HXL.out; unfold okMb at this; unfold I64; omega)
                  obtain ⟨v2, V2, hr, hoi2, hk2, hob2⟩ := HOIV.out.snoc x.node (by have := HHL.out; omega)
                  obtain ⟨va, vn, vc, rfl, -⟩ := hoi2.slice
                  have HR := Lib.hid hr
                  have HZB : Hid (∀ j, vo.ownBlock = some j → j ≠ zb) := Lib.hid (fun j e => by have := (HOI.out.2.lt j e).2; have := HZBS.out; omega)
                  have HOJ : Hid (∀ j, vo.ownBlock = some j → j ≠ s2 + 1 ∧ j ≠ bm ∧ j ≠ bm + 1) := Lib.hid (fun j e => by have h1 : bm + 1 < W7.heap.size := World.block_lt_of_cell? _ _ HC9.out; have := HS3.out; rcases HOV.out j e with h2 | h2 <;> omega)
                  have c7 := HC7V.out.1
                  have cb0 := HCB.out.1
                  have c72 : V2.cell? ⟨s2 + 1, 0, none⟩ = some vo := hk2.cell HC7V.out.1 (fun e => (HOJ.out _ e).1 rfl)
                  have f72 : V2.frozen? ⟨s2 + 1, 0, none⟩ = false := (hk2.frozen (World.block_lt_of_cell? _ _ HC7V.out.1) (fun e => (HOJ.out _ e).1 rfl) 0).trans HC7V.out.2
                  have HK3 : Hid (Keep (fun j => j = s2 + 1) V2 (V2.setCell ⟨s2 + 1, 0, none⟩ (Value.slice va vn vc))) := Lib.hid ((Keep.refl (fun j => j = s2 + 1) V2).setCell (p := ⟨s2 + 1, 0, none⟩) _ (.inl rfl))
                  have c93 : (V2.setCell ⟨s2 + 1, 0, none⟩ (Value.slice va vn vc)).cell? ⟨bm + 1, 0, none⟩ = some (.map (some bm)) := HK3.out.cell (hk2.cell (HKVV.out.cell HC9.out (fun e => by have := HS3.out; rcases e with e | e | e <;> omega)) (fun e => (HOJ.out _ e).2.2 rfl)) (fun e => by have h5 : bm + 1 = s2 + 1 := e; have := HS3.out; omega)
                  have cb1 : (V2.setCell ⟨s2 + 1, 0, none⟩ (Value.slice va vn vc)).cell? ⟨zb, 1, none⟩ = some (.int .i64 x.region) := HK3.out.cell (hk2.cell HCB.out.2 (fun e => HZB.out _ e rfl)) (fun e => by have h5 : zb = s2 + 1 := e; have h6 := HZBS.out; have h7 := World.block_lt_of_cell? _ _ HC7.out.1; have h8 : s2 + 1 < wr.heap.size := h7; omega)
                  have HC73 : Hid ((V2.setCell ⟨s2 + 1, 0, none⟩ (Value.slice va vn vc)).cell? ⟨s2 + 1, 0, none⟩ = some (Value.slice va vn vc) ∧ (V2.setCell ⟨s2 + 1, 0, none⟩ (Value.slice va vn vc)).frozen? ⟨s2 + 1, 0, none⟩ = false) := Lib.hid ⟨cell_set_same c72, by rw [World.frozen?_setCell]; exact f72⟩
                  have HM3 : Hid (MapB (V2.setCell ⟨s2 + 1, 0, none⟩ (Value.slice va vn vc)) bm (usedC l out)) := Lib.hid ((HMBV.out.keep hk2 (fun e => (HOJ.out _ e).2.1 rfl)).keep HK3.out (fun e => by have h5 : bm = s2 + 1 := e; have := HS3.out; omega))
                  have HOB2 : Hid (∀ j, (Value.slice va vn vc).ownBlock = some j → j = s2 ∨ W7.heap.size ≤ j) := Lib.hid (fun j e => by
                    rcases hob2 with h | h
                    · exact HOV.out j (h.symm.trans e)
                    · rw [h] at e
                      cases e
                      have h3 := HKVV.out.size
                      right
                      omega)
                  have HKW3 : Hid (Keep (fun j => j = s2 ∨ j = s2 + 1 ∨ j = bm) W7 (V2.setCell ⟨s2 + 1, 0, none⟩ (Value.slice va vn vc))) := Lib.hid ((HKVV.out.trans' hk2 (fun j e => by rcases HOV.out j e with h | h; exact .inl (.inl h); exact .inr h)).trans (HK3.out.mono (fun j e => .inr (.inl e))))
                  have HOI3 : Hid (OwnI w (out ++ [x.node]) (Value.slice va vn vc) (V2.setCell ⟨s2 + 1, 0, none⟩ (Value.slice va vn vc))) := Lib.hid ⟨hoi2.1.trans' HK3.out (fun j e => .inr (by have h5 : j = s2 + 1 := e; have := HZ.out; have := HZ2.out; omega)), ownsRow_keep hoi2.2 HK3.out (fun b hb e => by have h5 : b = s2 + 1 := e; have h1 : bm + 1 < W7.heap.size := World.block_lt_of_cell? _ _ HC9.out; have := HS3.out; rcases HOB2.out b hb with h2 | h2 <;> omega)⟩
                  clear hr hoi2 hk2 hob2
                  go_upto_region 25 with (at_builtin; refine wpList_app rfl (.tmp 85) (.tmp 89) 22 rfl rfl rfl HR.out ?_)
                  clear c7 cb0 c72 f72 HR
                  generalize V2.setCell ⟨s2 + 1, 0, none⟩ (Value.slice va vn vc) = V3 at *
                  obtain ⟨es', ck', hup, hmu⟩ := HM3.out.update (n := x.region) HXR.out
                  have HKP : Hid (Keep (fun j => j = bm) V3 (V3.putObj bm (.map es' ck'))) := Lib.hid ((Keep.refl (fun j => j = bm) V3).putObj _ (.inl rfl))
                  have HMU : Hid (MapB (V3.putObj bm (.map es' ck')) bm (usedC l (out ++ [x.node]))) := Lib.hid (by rw [HUS.out]; exact hmu)
                  have HC74 : Hid ((V3.putObj bm (.map es' ck')).cell? ⟨s2 + 1, 0, none⟩ = some (Value.slice va vn vc) ∧ (V3.putObj bm (.map es' ck')).frozen? ⟨s2 + 1, 0, none⟩ = false) := Lib.hid ⟨HKP.out.cell HC73.out.1 (fun e => by have h5 : s2 + 1 = bm := e; have := HS3.out; omega), (HKP.out.frozen (World.block_lt_of_cell? _ _ HC73.out.1) (fun e => by have h5 : s2 + 1 = bm := e; have := HS3.out; omega) 0).trans HC73.out.2⟩
                  have HOI4 : Hid (OwnI w (holdC (rkOf key) l o (i + 1)) (Value.slice va vn vc) (V3.putObj bm (.map es' ck'))) := Lib.hid (by rw [HOUT.out]; exact ⟨HOI3.out.1.trans' HKP.out (fun j e => .inr (by have h5 : j = bm := e; have := HZ.out; have := HZ2.out; have := HS3.out; omega)), ownsRow_keep HOI3.out.2 HKP.out (fun b hb e => by have h5 : b = bm := e; have h1 : bm + 1 < W7.heap.size := World.block_lt_of_cell? _ _ HC9.out; have := HS3.out; rcases HOB2.out b hb with h2 | h2 <;> omega)⟩)
                  have HMU4 : Hid (MapB (V3.putObj bm (.map es' ck')) bm (usedC l (holdC (rkOf key) l o (i + 1)))) := Lib.hid (by rw [HOUT.out]; exact HMU.out)
                  have HKW4 := Lib.hid (HKW3.out.trans (HKP.out.mono (fun j e => .inr (.inr e))))
                  clear hmu
                  go_wp2_with fail
                  clear hup c93 cb1
                  go_roundg (nn - (i + 1))
                  case rel => exact ⟨i + 1, (Value.slice va vn vc), by omega, by go_num, HOI4.out, HC74.out, HMU4.out, HKW4.out, HOB2.out⟩
                  case measure => omega
                | none =>
                  simp only [Option.isSome_none]
                  have HOUT : Hid (holdC (rkOf key) l o (i + 1) = out) := Lib.hid (by rw [HST.out]; unfold stepC nextC; rw [HSEL.out]; simp only [hs2])
                  have HOI4 : Hid (OwnI w (holdC (rkOf key) l o (i + 1)) vo V6) := Lib.hid (by rw [HOUT.out]; exact HOIV.out)
                  have HMU4 : Hid (MapB V6 bm (usedC l (holdC (rkOf key) l o (i + 1)))) := Lib.hid (by rw [HOUT.out]; exact HMBV.out)
                  clear hvx hs2 HB1 HF2 HSEL HN4
                  go_wp2_with fail
                  go_roundg (nn - (i + 1))
                  case rel => exact ⟨i + 1, vo, by omega, by go_num, HOI4.out, HC7V.out, HMU4.out, HKVV.out, HOV.out⟩
                  case measure => omega
            · obtain rfl : i = nn := by omega
              have HHL : Hid ((holdC (rkOf key) l o i).length ≤ 100) := Lib.hid (by have h1 := (holdC_ok (rk := rkOf key) HV.out.asc HOM.out i).len; have h2 := HV.out.len; omega)
              have HHB : Hid (∀ x ∈ holdC (rkOf key) l o i, I64 x) := Lib.hid (fun x hx => by
                obtain ⟨m, hm, e⟩ := List.mem_map.1 ((holdC_ok (rk := rkOf key) HV.out.asc HOM.out i).mem x hx)
                have := HV.out.ok m hm
                unfold okMb at this
                rw [← e]; unfold I64; omega)
              have HFIN : Hid (Its wr vo xs) := Lib.hid (by rw [HE.out]; exact its_owns HOI.out.2 (by have := HHL.out; omega) HHB.out)
              have HKF := Lib.hid HOI.out.1
              have c7 := HC7.out.1
              have hiz : ¬ (i : Int) < (i : Int) := by omega
              clear HOI HMB HKE
              go_wp2_with fail
              go_ret
              exact ⟨_, rfl, HFIN.out, HKF.out⟩
end Go.Proofs.YtplkmbfeeegaiaaGreatDoor
