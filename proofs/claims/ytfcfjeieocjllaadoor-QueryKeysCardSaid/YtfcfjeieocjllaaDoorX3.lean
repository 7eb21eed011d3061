/-
  QueryKeys: the walk.
-/
import Derived.Test.YtfcfjeieocjllaaDoorW16
namespace Go.Proofs.YtfcfjeieocjllaaDoor
open Go.RowKit Go.Shelf Go.Extern Go.Stop

set_option maxRecDepth 100000 in
set_option maxHeartbeats 8000000 in
theorem keys_walk (p : Addr) (a b : Qy) (w : World) (sa sb : ByteArray) (ea eb : Int) (hE : Env p w)
    (hpa : ∀ W, Pow W → Calls Tryd.prog 10 #[qV a] W fun e w' => e = .returned (.tuple #[.string sa, .int .i64 ea]) ∧ Keep (fun _ => False) W w')
    (hpb : ∀ W, Pow W → Calls Tryd.prog 10 #[qV b] W fun e w' => e = .returned (.tuple #[.string sb, .int .i64 eb]) ∧ Keep (fun _ => False) W w')
    (hfin : ¬ ea = 0 ∨ ¬ eb = 0 ∨ (sa.toList == sb.toList) = decide (a = b)) :
    Calls Tryd.prog 7 #[qV a, qV b] w fun e w' => e = .returned (.bool true) ∧ Keep (fun _ => False) w w' := by
  have HE := Lib.hid hE
  have ka : Keep (fun _ => False) w (w.alloc (.cells #[.int .i64 a.kd, .int .i64 a.tb, .int .i64 a.cl, .int .i64 a.lo, .int .i64 a.hi, .int .i64 a.bb, .int .i64 a.ot] 23)) := (Keep.refl _ w).alloc _
  have kb : Keep (fun _ => False) (w.alloc (.cells #[.int .i64 a.kd, .int .i64 a.tb, .int .i64 a.cl, .int .i64 a.lo, .int .i64 a.hi, .int .i64 a.bb, .int .i64 a.ot] 23)) ((w.alloc (.cells #[.int .i64 a.kd, .int .i64 a.tb, .int .i64 a.cl, .int .i64 a.lo, .int .i64 a.hi, .int .i64 a.bb, .int .i64 a.ot] 23)).alloc (.cells #[.int .i64 b.kd, .int .i64 b.tb, .int .i64 b.cl, .int .i64 b.lo, .int .i64 b.hi, .int .i64 b.bb, .int .i64 b.ot] 23)) := (Keep.refl _ _).alloc _
  have HA1 : Hid (QBox ((w.alloc (.cells #[.int .i64 a.kd, .int .i64 a.tb, .int .i64 a.cl, .int .i64 a.lo, .int .i64 a.hi, .int .i64 a.bb, .int .i64 a.ot] 23)).alloc (.cells #[.int .i64 b.kd, .int .i64 b.tb, .int .i64 b.cl, .int .i64 b.lo, .int .i64 b.hi, .int .i64 b.bb, .int .i64 b.ot] 23)) w.heap.size a) := Lib.hid ((QBox.new w a 23).kept kb)
  have HB1 : Hid (QBox ((w.alloc (.cells #[.int .i64 a.kd, .int .i64 a.tb, .int .i64 a.cl, .int .i64 a.lo, .int .i64 a.hi, .int .i64 a.bb, .int .i64 a.ot] 23)).alloc (.cells #[.int .i64 b.kd, .int .i64 b.tb, .int .i64 b.cl, .int .i64 b.lo, .int .i64 b.hi, .int .i64 b.bb, .int .i64 b.ot] 23)) (w.heap.size + 1) b) := Lib.hid (by
    have h := QBox.new (w.alloc (.cells #[.int .i64 a.kd, .int .i64 a.tb, .int .i64 a.cl, .int .i64 a.lo, .int .i64 a.hi, .int .i64 a.bb, .int .i64 a.ot] 23)) b 23
    rw [World.size_alloc] at h
    exact h)
  have HK1 := Lib.hid (ka.trans kb)
  have HPA := Lib.hid hpa
  have HPB := Lib.hid hpb
  have HF := Lib.hid hfin
  clear hE ka kb hpa hpb hfin
  go_enter Tryd.func7, Tryd.ntmps7
  go_upto_region 1 with (fail)
  generalize (w.alloc (.cells #[.int .i64 a.kd, .int .i64 a.tb, .int .i64 a.cl, .int .i64 a.lo, .int .i64 a.hi, .int .i64 a.bb, .int .i64 a.ot] 23)).alloc (.cells #[.int .i64 b.kd, .int .i64 b.tb, .int .i64 b.cl, .int .i64 b.lo, .int .i64 b.hi, .int .i64 b.bb, .int .i64 b.ot] 23) = V1 at *
  generalize w.heap.size + 1 = z2 at *
  generalize w.heap.size = z1 at *
  go_wp2_with fail
  with_reducible refine (sane05_any p V1 (HE.out.kept HK1.out)).mono ?_
  rintro e V2 ⟨rfl, k⟩
  have HA2 := Lib.hid (HA1.out.kept k)
  have HB2 := Lib.hid (HB1.out.kept k)
  have HK2 := Lib.hid (HK1.out.trans k)
  clear k HA1 HB1 HK1
  obtain ⟨c0, c1, c2, c3, c4, c5, c6⟩ := HA2.out.cells
  go_wp2_with fail
  clear c0 c1 c2 c3 c4 c5 c6
  with_reducible refine (HPA.out V2 (HE.out.kept HK2.out).pow).mono ?_
  rintro e V3 ⟨rfl, k⟩
  have HA3 := Lib.hid (HA2.out.kept k)
  have HB3 := Lib.hid (HB2.out.kept k)
  have HK3 := Lib.hid (HK2.out.trans k)
  clear k HA2 HB2 HK2
  obtain ⟨c0, c1, c2, c3, c4, c5, c6⟩ := HB3.out.cells
  go_wp2_with fail
  clear c0 c1 c2 c3 c4 c5 c6
  with_reducible refine (HPB.out V3 (HE.out.kept HK3.out).pow).mono ?_
  rintro e V4 ⟨rfl, k⟩
  have HA4 := Lib.hid (HA3.out.kept k)
  have HB4 := Lib.hid (HB3.out.kept k)
  have HK4 := Lib.hid (HK3.out.trans k)
  clear k HA3 HB3 HK3 HPA HPB
  by_cases h1 : ea = 0
  · by_cases h2 : eb = 0
    · have hs : (sa.toList == sb.toList) = decide (a = b) := by
        rcases HF.out with h | h | h
        · exact absurd h1 h
        · exact absurd h2 h
        · exact h
      subst h1 h2
      obtain ⟨c0, c1, c2, c3, c4, c5, c6⟩ := HA4.out.cells
      obtain ⟨d0, d1, d2, d3, d4, d5, d6⟩ := HB4.out.cells
      have heq := fun w => eql_qy a b w
      have hm := guardQ
      generalize decide (a = b) = bb at *
      clear HF
      cases bb
      · go_wp2_with fail
        go_ret
        exact ⟨rfl, HK4.out⟩
      · go_wp2_with fail
        go_ret
        exact ⟨rfl, HK4.out⟩
    · subst h1
      clear HF
      go_wp2_with fail
      go_ret
      exact ⟨rfl, HK4.out⟩
  · clear HF
    go_wp2_with fail
    go_ret
    exact ⟨rfl, HK4.out⟩
theorem keys_law (p : Addr) (a b : Qy) (w : World) (hE : Env p w) : Calls Tryd.prog 7 #[qV a, qV b] w fun e w' => e = .returned (.bool true) ∧ Keep (fun _ => False) w w' := by
  refine keys_walk p a b w _ _ _ _ hE (print_any a) (print_any b) ?_
  by_cases ha : a.ok
  · by_cases hb : b.ok
    · refine .inr (.inr ?_)
      rw [if_pos ha, if_pos hb, str_beq, bs_list, bs_list]
      by_cases hab : a = b
      · subst hab
        simp
      · rw [decide_eq_false hab]
        exact decide_eq_false (fun h => hab (line_inj ha hb h))
    · rw [if_neg hb]
      exact .inr (.inl (by decide))
  · rw [if_neg ha]
    exact .inl (by decide)
end Go.Proofs.YtfcfjeieocjllaaDoor
