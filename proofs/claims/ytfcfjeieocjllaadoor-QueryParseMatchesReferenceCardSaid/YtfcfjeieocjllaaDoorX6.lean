/-
  QueryParseMatchesReference: the walk.
-/
import Derived.Test.YtfcfjeieocjllaaDoorZ5
import Derived.Test.YtfcfjeieocjllaaDoorW16
namespace Go.Proofs.YtfcfjeieocjllaaDoor
open Go.RowKit Go.Shelf Go.Extern Go.Stop

set_option maxRecDepth 100000 in
set_option maxHeartbeats 8000000 in
theorem parseMatches_law (p : Addr) (x : ByteArray) (w : World) (hE : Env p w) : Calls Tryd.prog 4 #[.string x] w fun e w' => e = .returned (.bool true) ∧ Keep (fun _ => False) w w' := by
  have HE := Lib.hid hE
  have hm0 : (0 : Int) ≤ min (x.size : Int) 200 := by omega
  have hm1 : min (x.size : Int) 200 ≤ (x.size : Int) := by omega
  have HS : Hid ((x.extract 0 (min (x.size : Int) 200).toNat).size ≤ 200) := Lib.hid (by rw [ByteArray.size_extract]; omega)
  clear hE
  go_enter Tryd.func4, Tryd.ntmps4
  go_wp2_with fail
  with_reducible refine (sane05_any p w HE.out).mono ?_
  rintro e V2 ⟨rfl, k⟩
  have HK2 := Lib.hid k
  clear k
  go_wp2_with fail
  clear hm0 hm1
  generalize x.extract 0 (min (x.size : Int) 200).toNat = y at *
  have HPA := Lib.hid (parseQ_any p y V2 (by have := HS.out; omega) (HE.out.kept HK2.out))
  have HPB : Hid (∀ W, Calls Tryd.prog 17 #[.string y] W (ParsePost y W)) := Lib.hid (fun W => refParse_any y W (by have := HS.out; omega))
  unfold ParsePost at HPA HPB
  generalize ansQ (parseS y.data.toList) = q at *
  generalize ansE (parseS y.data.toList) = ev at *
  with_reducible refine HPA.out.mono ?_
  clear HPA
  rintro e V3 ⟨rfl, k⟩
  have HK3 := Lib.hid (HK2.out.trans k)
  clear k HK2
  have ka : Keep (fun _ => False) V3 (V3.alloc (.cells #[.int .i64 q.kd, .int .i64 q.tb, .int .i64 q.cl, .int .i64 q.lo, .int .i64 q.hi, .int .i64 q.bb, .int .i64 q.ot] 23)) := (Keep.refl _ V3).alloc _
  have HB4 := Lib.hid (QBox.new V3 q 23)
  have HK4 := Lib.hid (HK3.out.trans ka)
  clear ka HK3
  go_upto_region 4 with (fail)
  generalize V3.alloc (.cells #[.int .i64 q.kd, .int .i64 q.tb, .int .i64 q.cl, .int .i64 q.lo, .int .i64 q.hi, .int .i64 q.bb, .int .i64 q.ot] 23) = V4 at *
  generalize V3.heap.size = z4 at *
  go_wp2_with fail
  with_reducible refine (HPB.out V4).mono ?_
  rintro e V5 ⟨rfl, k⟩
  have HB5 := Lib.hid (HB4.out.kept k)
  have HK5 := Lib.hid (HK4.out.trans k)
  clear k HB4 HK4
  have ka : Keep (fun _ => False) V5 (V5.alloc (.cells #[.int .i64 q.kd, .int .i64 q.tb, .int .i64 q.cl, .int .i64 q.lo, .int .i64 q.hi, .int .i64 q.bb, .int .i64 q.ot] 23)) := (Keep.refl _ V5).alloc _
  have HB6 := Lib.hid (QBox.new V5 q 23)
  have HB7 := Lib.hid (HB5.out.kept ka)
  have HK6 := Lib.hid (HK5.out.trans ka)
  clear ka HK5 HB5
  go_upto_region 5 with (fail)
  generalize V5.alloc (.cells #[.int .i64 q.kd, .int .i64 q.tb, .int .i64 q.cl, .int .i64 q.lo, .int .i64 q.hi, .int .i64 q.bb, .int .i64 q.ot] 23) = V6 at *
  generalize V5.heap.size = z6 at *
  obtain ⟨c0, c1, c2, c3, c4, c5, c6⟩ := HB6.out.cells
  obtain ⟨d0, d1, d2, d3, d4, d5, d6⟩ := HB7.out.cells
  have heq := fun w => eql_qy q q w
  have hd : decide (q = q) = true := decide_eq_true rfl
  rw [hd] at heq
  have hm := guardQ
  clear hd
  go_wp2_with fail
  go_ret
  exact ⟨rfl, HK6.out⟩
end Go.Proofs.YtfcfjeieocjllaaDoor
