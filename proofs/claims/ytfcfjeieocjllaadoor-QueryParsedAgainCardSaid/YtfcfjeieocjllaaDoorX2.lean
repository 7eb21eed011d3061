/-
  QueryParsedAgain: the walk.
-/
import Derived.Test.YtfcfjeieocjllaaDoorW16
namespace Go.Proofs.YtfcfjeieocjllaaDoor
open Go.RowKit Go.Shelf Go.Extern Go.Stop

theorem bs_of {y : ByteArray} {l : List UInt8} (h : l = y.data.toList) : bs l = y := by
  subst h
  cases y
  rfl
set_option maxRecDepth 100000 in
set_option maxHeartbeats 8000000 in
theorem parsedAgain_law (p : Addr) (x : ByteArray) (w : World) (hE : Env p w) : Calls Tryd.prog 6 #[.string x] w fun e w' => e = .returned (.bool true) ∧ Keep (fun _ => False) w w' := by
  have HE := Lib.hid hE
  have hm0 : (0 : Int) ≤ min (x.size : Int) 200 := by omega
  have hm1 : min (x.size : Int) 200 ≤ (x.size : Int) := by omega
  have HS : Hid ((x.extract 0 (min (x.size : Int) 200).toNat).size ≤ 200) := Lib.hid (by rw [ByteArray.size_extract]; omega)
  clear hE
  go_enter Tryd.func6, Tryd.ntmps6
  go_wp2_with fail
  with_reducible refine (sane05_any p w HE.out).mono ?_
  rintro e V2 ⟨rfl, k⟩
  have HK2 := Lib.hid k
  clear k
  go_wp2_with fail
  clear hm0 hm1
  generalize x.extract 0 (min (x.size : Int) 200).toNat = y at *
  have HPA := Lib.hid (parseQ_any p y V2 (by have := HS.out; omega) (HE.out.kept HK2.out))
  unfold ParsePost at HPA
  rcases hp : parseS y.data.toList with _ | q
  · rw [hp] at HPA
    have HPB : Hid (Calls Tryd.prog 16 #[.string y] V2 fun e w' => e = .returned (.tuple #[.agg #[.int .i64 0, .int .i64 0, .int .i64 0, .int .i64 0, .int .i64 0, .int .i64 0, .int .i64 0], .int .i64 50]) ∧ Keep (fun _ => False) V2 w') := Lib.hid HPA.out
    have heq : (binOp .eql 23 (.agg #[.int .i64 0, .int .i64 0, .int .i64 0, .int .i64 0, .int .i64 0, .int .i64 0, .int .i64 0]) (.agg #[.int .i64 0, .int .i64 0, .int .i64 0, .int .i64 0, .int .i64 0, .int .i64 0, .int .i64 0])).run Tryd.prog = fun w => .ok (.bool true) w := by
      funext w
      have h := eql_qy ⟨0, 0, 0, 0, 0, 0, 0⟩ ⟨0, 0, 0, 0, 0, 0, 0⟩ w
      rw [decide_eq_true rfl] at h
      exact h
    have HEQ := Lib.hid heq
    clear HPA hp heq
    with_reducible refine HPB.out.mono ?_
    rintro e V3 ⟨rfl, k⟩
    have HK3 := Lib.hid (HK2.out.trans k)
    clear k HPB HK2
    have ka : Keep (fun _ => False) V3 (V3.alloc (.cells #[.int .i64 0, .int .i64 0, .int .i64 0, .int .i64 0, .int .i64 0, .int .i64 0, .int .i64 0] 23)) := (Keep.refl _ V3).alloc _
    have HB : Hid (QBox (V3.alloc (.cells #[.int .i64 0, .int .i64 0, .int .i64 0, .int .i64 0, .int .i64 0, .int .i64 0, .int .i64 0] 23)) V3.heap.size ⟨0, 0, 0, 0, 0, 0, 0⟩) := Lib.hid (QBox.new V3 ⟨0, 0, 0, 0, 0, 0, 0⟩ 23)
    have HK4 := Lib.hid (HK3.out.trans ka)
    clear ka HK3
    go_upto_region 4 with (fail)
    generalize (V3.alloc (.cells #[.int .i64 0, .int .i64 0, .int .i64 0, .int .i64 0, .int .i64 0, .int .i64 0, .int .i64 0] 23)) = V4 at *
    generalize V3.heap.size = z4 at *
    obtain ⟨c0, c1, c2, c3, c4, c5, c6⟩ := HB.out.cells
    simp only at c0 c1 c2 c3 c4 c5 c6
    have heq := HEQ.out
    have hm := guardQ
    go_wp2_with fail
    go_ret
    exact ⟨rfl, HK4.out⟩
  · rw [hp] at HPA
    have HPB : Hid (Calls Tryd.prog 16 #[.string y] V2 fun e w' => e = .returned (.tuple #[qV q, .int .i64 0]) ∧ Keep (fun _ => False) V2 w') := Lib.hid HPA.out
    obtain ⟨hok, hl⟩ := (parseS_iff _ q).1 hp
    have HPR : Hid (∀ W, Pow W → Calls Tryd.prog 10 #[qV q] W fun e w' => e = .returned (.tuple #[.string y, .int .i64 0]) ∧ Keep (fun _ => False) W w') := Lib.hid (fun W hW => by
      have h := print_any q W hW
      unfold PrintPost at h
      rw [if_pos hok, if_pos hok, bs_of hl] at h
      exact h)
    have HVA : Hid (∀ W, Calls Tryd.prog 14 #[qV q] W fun e w' => e = .returned (.bool true) ∧ Keep (fun _ => False) W w') := Lib.hid (fun W => by
      have h := valid_any q W
      rw [decide_eq_true hok] at h
      exact h)
    clear HPA hp hok hl
    with_reducible refine HPB.out.mono ?_
    rintro e V3 ⟨rfl, k⟩
    have HK3 := Lib.hid (HK2.out.trans k)
    clear k HPB HK2
    have ka : Keep (fun _ => False) V3 (V3.alloc (.cells #[.int .i64 q.kd, .int .i64 q.tb, .int .i64 q.cl, .int .i64 q.lo, .int .i64 q.hi, .int .i64 q.bb, .int .i64 q.ot] 23)) := (Keep.refl _ V3).alloc _
    have HB := Lib.hid (QBox.new V3 q 23)
    have HK4 := Lib.hid (HK3.out.trans ka)
    clear ka HK3
    go_upto_region 4 with (fail)
    generalize V3.alloc (.cells #[.int .i64 q.kd, .int .i64 q.tb, .int .i64 q.cl, .int .i64 q.lo, .int .i64 q.hi, .int .i64 q.bb, .int .i64 q.ot] 23) = V4 at *
    generalize V3.heap.size = z4 at *
    obtain ⟨c0, c1, c2, c3, c4, c5, c6⟩ := HB.out.cells
    go_wp2_with fail
    clear c0 c1 c2 c3 c4 c5 c6
    with_reducible refine (HPR.out V4 (HE.out.kept HK4.out).pow).mono ?_
    rintro e V5 ⟨rfl, k⟩
    have HB5 := Lib.hid (HB.out.kept k)
    have HK5 := Lib.hid (HK4.out.trans k)
    clear k HB HK4
    obtain ⟨c0, c1, c2, c3, c4, c5, c6⟩ := HB5.out.cells
    go_wp2_with fail
    clear c0 c1 c2 c3 c4 c5 c6
    with_reducible refine (HVA.out V5).mono ?_
    rintro e V6 ⟨rfl, k⟩
    have HK6 := Lib.hid (HK5.out.trans k)
    clear k HK5
    go_wp2_with fail
    go_ret
    exact ⟨rfl, HK6.out⟩
end Go.Proofs.YtfcfjeieocjllaaDoor
