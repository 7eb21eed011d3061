/-
  half, sound, ValidChange of package row.
-/
import Derived.Test.YtmndjicaofciiaaGreatDoorH4
import Derived.ChangeKeysEq
namespace Go.Proofs.YtmndjicaofciiaaGreatDoor
open Go.RowKit Go.Shelf

theorem eqIn_v3 (a b c a' b' c' : Int) (w : World) : (Op.equalIn 10000 35 (v3V a b c) (v3V a' b' c')).run Tryz.prog w = .ok (a == a' && (b == b' && c == c')) w := by
  obtain ⟨i, hi⟩ : ∃ i, Tryz.prog.info? 3 = some i := Option.isSome_iff_exists.1 (by kernel_rfl)
  have u3 := Tryz.underlying3
  have a3 := Tryz.isAgg3
  have z3 : Tryz.prog.cellsOf 3 = 1 := by kernel_rfl
  rw [show (10000 : Nat) = 9999 + 1 from rfl, run_equalIn_array w 9999 _ _ Tryz.underlying35 hi, z3]
  have r3 : List.range 3 = [0, 1, 2] := rfl
  rw [r3]
  simp only [Op.eqItems]
  go_simp
  (repeat' split) <;> simp [*]
theorem eql_v3 (a b c a' b' c' : Int) (w : World) : (binOp .eql 35 (v3V a b c) (v3V a' b' c')).run Tryz.prog w = .ok (.bool (a == a' && (b == b' && c == c'))) w := by
  rw [run_eql_struct, eqIn_v3]; rfl
theorem neq_v3 (a b c a' b' c' : Int) (w : World) : (binOp .neq 35 (v3V a b c) (v3V a' b' c')).run Tryz.prog w = .ok (.bool (!(a == a' && (b == b' && c == c')))) w := by
  rw [run_neq_struct, eqIn_v3]; rfl
theorem guardV : Tryz.prog.eqGuardType Tryz.prog.depth 35 = false := by kernel_rfl
def halfR (r : R5) (there : Bool) : R5 := if there then r else ⟨0, 0, 0, 0, 0⟩
set_option maxRecDepth 100000 in
set_option maxHeartbeats 1000000 in
theorem half_any (c : Chg) (there : Bool) (x y z : Int) (w : World) : Calls Tryz.prog 47 #[chV c, .bool there, v3V x y z] w fun e w' => e = .returned (.tuple #[rowV (halfR ⟨c.tb, c.ky, x, y, z⟩ there), .bool there]) ∧ Keep (fun _ => False) w w' := by
  have K1 : Keep (fun _ => False) w (w.alloc (.cells (chC c).toArray 51)) := keep_cells _ _ _
  have B1 := BoxL.new w (chC c) 51
  obtain ⟨tb, ky, had, o0, o1, o2, has, n0, n1, n2⟩ := c
  have K2 := K1.alloc (.cells #[.int .i64 x, .int .i64 y, .int .i64 z] 35)
  have B2 := B1.kept (keep_cells _ #[.int .i64 x, .int .i64 y, .int .i64 z] 35)
  have V2 := BoxL.new (w.alloc (.cells #[.int .i64 tb, .int .i64 ky, .bool had, .int .i64 o0, .int .i64 o1, .int .i64 o2, .bool has, .int .i64 n0, .int .i64 n1, .int .i64 n2] 51)) [.int .i64 x, .int .i64 y, .int .i64 z] 35
  have K3 := K2.alloc (.cells #[.int .i64 0, .int .i64 0, .int .i64 0, .int .i64 0, .int .i64 0] 37)
  have B3 := B2.kept (keep_cells _ #[.int .i64 0, .int .i64 0, .int .i64 0, .int .i64 0, .int .i64 0] 37)
  have V3 := V2.kept (keep_cells _ #[.int .i64 0, .int .i64 0, .int .i64 0, .int .i64 0, .int .i64 0] 37)
  have R3 := BoxL.new ((w.alloc (.cells #[.int .i64 tb, .int .i64 ky, .bool had, .int .i64 o0, .int .i64 o1, .int .i64 o2, .bool has, .int .i64 n0, .int .i64 n1, .int .i64 n2] 51)).alloc (.cells #[.int .i64 x, .int .i64 y, .int .i64 z] 35)) [.int .i64 0, .int .i64 0, .int .i64 0, .int .i64 0, .int .i64 0] 37
  simp only [World.size_alloc] at B1 V2 B3 V3 R3
  have HK := Lib.hid K3
  have HB := Lib.hid B3
  have HV := Lib.hid V3
  have HR := Lib.hid R3
  clear K1 K2 K3 B1 B2 B3 V2 V3 R3
  have HZ : Hid (w.heap.size ≤ w.heap.size + 1 + 1) := Lib.hid (by omega)
  cases there with
  | false =>
    go_enter Tryz.func47, Tryz.ntmps47
    go_upto_region 1 with (fail)
    generalize ((w.alloc (.cells #[.int .i64 tb, .int .i64 ky, .bool had, .int .i64 o0, .int .i64 o1, .int .i64 o2, .bool has, .int .i64 n0, .int .i64 n1, .int .i64 n2] 51)).alloc (.cells #[.int .i64 x, .int .i64 y, .int .i64 z] 35)).alloc (.cells #[.int .i64 0, .int .i64 0, .int .i64 0, .int .i64 0, .int .i64 0] 37) = W at *
    generalize w.heap.size + 1 + 1 = zr at *
    generalize w.heap.size + 1 = zv at *
    obtain ⟨q0, q1, q2, q3, q4⟩ := HR.out.row (r := ⟨0, 0, 0, 0, 0⟩)
    have fr := HR.out.soft
    go_wp2_with fail
    obtain ⟨W2, hW, hb, hk⟩ := HR.out.put5 ⟨0, 0, 0, 0, 0⟩
    simp only [] at hW
    rw [hW]
    obtain ⟨d0, d1, d2, d3, d4⟩ := hb.row
    refine bodyPost_ret (v := .tuple #[rowV ⟨0, 0, 0, 0, 0⟩, .bool false]) (by simp [results, Tryz.results47, go_sem, d0, d1, d2, d3, d4]) rfl ?_
    exact ⟨rfl, keep0 HK.out HZ.out hk⟩
  | true =>
    go_enter Tryz.func47, Tryz.ntmps47
    go_upto_region 1 with (fail)
    generalize ((w.alloc (.cells #[.int .i64 tb, .int .i64 ky, .bool had, .int .i64 o0, .int .i64 o1, .int .i64 o2, .bool has, .int .i64 n0, .int .i64 n1, .int .i64 n2] 51)).alloc (.cells #[.int .i64 x, .int .i64 y, .int .i64 z] 35)).alloc (.cells #[.int .i64 0, .int .i64 0, .int .i64 0, .int .i64 0, .int .i64 0] 37) = W at *
    generalize w.heap.size + 1 + 1 = zr at *
    generalize w.heap.size + 1 = zv at *
    obtain ⟨c0, c1, -, -, -, -, -, -, -, -⟩ := HB.out.chg
    have v0 := HV.out.cell 0 _ rfl
    have v1 := HV.out.cell 1 _ rfl
    have v2 := HV.out.cell 2 _ rfl
    obtain ⟨q0, q1, q2, q3, q4⟩ := HR.out.row (r := ⟨0, 0, 0, 0, 0⟩)
    have fr := HR.out.soft
    go_wp2_with fail
    obtain ⟨W2, hW, hb, hk⟩ := HR.out.put5 ⟨tb, ky, x, y, z⟩
    simp only [] at hW
    rw [hW]
    obtain ⟨d0, d1, d2, d3, d4⟩ := hb.row
    refine bodyPost_ret (v := .tuple #[rowV ⟨tb, ky, x, y, z⟩, .bool true]) (by simp [results, Tryz.results47, go_sem, d0, d1, d2, d3, d4]) rfl ?_
    exact ⟨rfl, keep0 HK.out HZ.out hk⟩
set_option maxRecDepth 100000 in
set_option maxHeartbeats 2000000 in
theorem sound_any (c : Chg) (there : Bool) (x y z : Int) (w : World) (hf : R5.fine ⟨c.tb, c.ky, x, y, z⟩) : Calls Tryz.prog 80 #[chV c, .bool there, v3V x y z] w fun e w' => e = .returned (.bool (soundC ⟨c.tb, c.ky, x, y, z⟩ there)) ∧ Keep (fun _ => False) w w' := by
  have K1 : Keep (fun _ => False) w (w.alloc (.cells (chC c).toArray 51)) := keep_cells _ _ _
  have B1 := BoxL.new w (chC c) 51
  have HHF : Hid (∀ W, Calls Tryz.prog 47 #[chV c, .bool there, v3V x y z] W fun e w' => e = .returned (.tuple #[rowV (halfR ⟨c.tb, c.ky, x, y, z⟩ there), .bool there]) ∧ Keep (fun _ => False) W w') := Lib.hid (half_any c there x y z)
  obtain ⟨tb, ky, had, o0, o1, o2, has, n0, n1, n2⟩ := c
  have K2 := K1.alloc (.cells #[.int .i64 x, .int .i64 y, .int .i64 z] 35)
  have B2 := B1.kept (keep_cells _ #[.int .i64 x, .int .i64 y, .int .i64 z] 35)
  have V2 := BoxL.new (w.alloc (.cells #[.int .i64 tb, .int .i64 ky, .bool had, .int .i64 o0, .int .i64 o1, .int .i64 o2, .bool has, .int .i64 n0, .int .i64 n1, .int .i64 n2] 51)) [.int .i64 x, .int .i64 y, .int .i64 z] 35
  simp only [World.size_alloc] at V2
  have HK := Lib.hid K2
  have HB := Lib.hid B2
  have HV := Lib.hid V2
  have HF := Lib.hid hf
  clear K1 K2 B1 B2 V2 hf
  have HVR : Hid (∀ W, Calls Tryz.prog 100 #[rowV ⟨tb, ky, x, y, z⟩] W fun e w' => e = .returned (.bool (okRow ⟨tb, ky, x, y, z⟩)) ∧ Keep (fun _ => False) W w') := Lib.hid (okRow_any ⟨tb, ky, x, y, z⟩ HF.out)
  cases there with
  | true =>
    have HO : Hid (soundC ⟨tb, ky, x, y, z⟩ true = okRow ⟨tb, ky, x, y, z⟩) := Lib.hid (by unfold soundC; simp)
    have HFR : Hid (halfR ⟨tb, ky, x, y, z⟩ true = ⟨tb, ky, x, y, z⟩) := Lib.hid rfl
    go_enter Tryz.func80, Tryz.ntmps80
    go_upto_region 1 with (fail)
    generalize ((w.alloc (.cells #[.int .i64 tb, .int .i64 ky, .bool had, .int .i64 o0, .int .i64 o1, .int .i64 o2, .bool has, .int .i64 n0, .int .i64 n1, .int .i64 n2] 51)).alloc (.cells #[.int .i64 x, .int .i64 y, .int .i64 z] 35)) = W at *
    generalize w.heap.size + 1 = zv at *
    generalize w.heap.size = zc at *
    obtain ⟨c0, c1, c2, c3, c4, c5, c6, c7, c8, c9⟩ := HB.out.chg
    have v0 := HV.out.cell 0 _ rfl
    have v1 := HV.out.cell 1 _ rfl
    have v2 := HV.out.cell 2 _ rfl
    simp only [] at c0 c1 c2 c3 c4 c5 c6 c7 c8 c9
    go_wp2_with fail
    clear c0 c1 c2 c3 c4 c5 c6 c7 c8 c9 v0 v1 v2
    with_reducible refine (HHF.out W).mono ?_
    rintro e W3 ⟨rfl, k⟩
    rw [HFR.out]
    have HK3 := Lib.hid ((HK.out.trans k).alloc (.cells #[.int .i64 tb, .int .i64 ky, .int .i64 x, .int .i64 y, .int .i64 z] 37))
    have HR3 := Lib.hid (BoxL.new W3 (rowC ⟨tb, ky, x, y, z⟩) 37)
    clear k
    go_upto_region 2 with (fail)
    generalize W3.alloc (.cells #[.int .i64 tb, .int .i64 ky, .int .i64 x, .int .i64 y, .int .i64 z] 37) = W4 at *
    generalize W3.heap.size = zr at *
    obtain ⟨c0, c1, c2, c3, c4⟩ := HR3.out.row
    simp only [] at c0 c1 c2 c3 c4
    go_wp2_with fail
    clear c0 c1 c2 c3 c4
    with_reducible refine (HVR.out W4).mono ?_
    rintro e W5 ⟨rfl, k⟩
    have HK5 := Lib.hid (HK3.out.trans k)
    clear k
    cases hq : okRow ⟨tb, ky, x, y, z⟩ with
    | true =>
      rw [hq] at HO
      go_wp2_with fail
      go_ret
      exact ⟨by rw [HO.out] <;> rfl, HK5.out⟩
    | false =>
      rw [hq] at HO
      go_wp2_with fail
      go_ret
      exact ⟨by rw [HO.out] <;> rfl, HK5.out⟩
  | false =>
    have HO : Hid (soundC ⟨tb, ky, x, y, z⟩ false = (x == 0 && (y == 0 && z == 0))) := Lib.hid (by unfold soundC; simp)
    have HFR : Hid (halfR ⟨tb, ky, x, y, z⟩ false = ⟨0, 0, 0, 0, 0⟩) := Lib.hid rfl
    go_enter Tryz.func80, Tryz.ntmps80
    go_upto_region 1 with (fail)
    generalize ((w.alloc (.cells #[.int .i64 tb, .int .i64 ky, .bool had, .int .i64 o0, .int .i64 o1, .int .i64 o2, .bool has, .int .i64 n0, .int .i64 n1, .int .i64 n2] 51)).alloc (.cells #[.int .i64 x, .int .i64 y, .int .i64 z] 35)) = W at *
    generalize w.heap.size + 1 = zv at *
    generalize w.heap.size = zc at *
    obtain ⟨c0, c1, c2, c3, c4, c5, c6, c7, c8, c9⟩ := HB.out.chg
    have v0 := HV.out.cell 0 _ rfl
    have v1 := HV.out.cell 1 _ rfl
    have v2 := HV.out.cell 2 _ rfl
    simp only [] at c0 c1 c2 c3 c4 c5 c6 c7 c8 c9
    go_wp2_with fail
    clear c0 c1 c2 c3 c4 c5 c6 c7 c8 c9 v0 v1 v2
    with_reducible refine (HHF.out W).mono ?_
    rintro e W3 ⟨rfl, k⟩
    rw [HFR.out]
    have HK3 := Lib.hid ((HK.out.trans k).alloc (.cells #[.int .i64 0, .int .i64 0, .int .i64 0, .int .i64 0, .int .i64 0] 37))
    have HV3 := Lib.hid ((HV.out.kept k).kept (keep_cells W3 #[.int .i64 0, .int .i64 0, .int .i64 0, .int .i64 0, .int .i64 0] 37))
    clear k
    go_upto_region 2 with (fail)
    generalize W3.alloc (.cells #[.int .i64 0, .int .i64 0, .int .i64 0, .int .i64 0, .int .i64 0] 37) = W4 at *
    have v0 := HV3.out.cell 0 _ rfl
    have v1 := HV3.out.cell 1 _ rfl
    have v2 := HV3.out.cell 2 _ rfl
    have hm := guardV
    have heq := fun w => eql_v3 x y z 0 0 0 w
    generalize (x == 0 && (y == 0 && z == 0)) = q at *
    go_wp2_with fail
    go_ret
    exact ⟨by rw [HO.out] <;> rfl, HK3.out⟩
end Go.Proofs.YtmndjicaofciiaaGreatDoor
