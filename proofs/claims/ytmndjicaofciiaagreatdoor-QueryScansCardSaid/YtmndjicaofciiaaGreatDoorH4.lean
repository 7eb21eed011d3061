/-
  Valid, half, sound, ValidChange of package row.
-/
import Derived.Test.YtmndjicaofciiaaGreatDoorH3
namespace Go.Proofs.YtmndjicaofciiaaGreatDoor
open Go.RowKit Go.Shelf

theorem its_one (W : World) (x : Int) (t : TypeId) (hx : I64 x) : Its (W.alloc (.cells #[.int .i64 x] t)) (.slice (some ⟨W.heap.size, 0, none⟩) 1 1) [x] := by
  refine ⟨by simp, by simpa using hx, some ⟨W.heap.size, 0, none⟩, 1, W.heap.size, 0, rfl, by simp, fun _ => rfl, fun j y hj => ?_⟩
  rcases j with _ | j
  · simp at hj
    subst hj
    exact one_cell _ _ _
  · simp at hj
theorem its_v {W : World} {z : Nat} {r : R5} (h : BoxL W z (rowC r)) (hf : r.fine) : Its W (.slice (some ⟨z, 2, none⟩) 3 3) [r.a, r.b, r.c] := by
  refine ⟨by simp, ?_, some ⟨z, 2, none⟩, 3, z, 2, rfl, by simp, fun _ => rfl, fun j y hj => ?_⟩
  · intro x hx
    simp only [List.mem_cons, List.not_mem_nil, or_false] at hx
    rcases hx with rfl | rfl | rfl
    · exact hf.2.2.1
    · exact hf.2.2.2.1
    · exact hf.2.2.2.2
  · rcases j with _ | _ | _ | j
    · simp at hj; subst hj; exact h.cell 2 _ rfl
    · simp at hj; subst hj; exact h.cell 3 _ rfl
    · simp at hj; subst hj; exact h.cell 4 _ rfl
    · simp at hj
theorem BoxL.row {W : World} {z : Nat} {r : R5} (h : BoxL W z (rowC r)) : W.cell? ⟨z, 0, none⟩ = some (.int .i64 r.tb) ∧ W.cell? ⟨z, 1, none⟩ = some (.int .i64 r.ky) ∧ W.cell? ⟨z, 2, none⟩ = some (.int .i64 r.a) ∧ W.cell? ⟨z, 3, none⟩ = some (.int .i64 r.b) ∧ W.cell? ⟨z, 4, none⟩ = some (.int .i64 r.c) :=
  ⟨h.cell 0 _ rfl, h.cell 1 _ rfl, h.cell 2 _ rfl, h.cell 3 _ rfl, h.cell 4 _ rfl⟩
theorem BoxL.chg {W : World} {z : Nat} {c : Chg} (h : BoxL W z (chC c)) : W.cell? ⟨z, 0, none⟩ = some (.int .i64 c.tb) ∧ W.cell? ⟨z, 1, none⟩ = some (.int .i64 c.ky) ∧ W.cell? ⟨z, 2, none⟩ = some (.bool c.had) ∧ W.cell? ⟨z, 3, none⟩ = some (.int .i64 c.o0) ∧ W.cell? ⟨z, 4, none⟩ = some (.int .i64 c.o1) ∧ W.cell? ⟨z, 5, none⟩ = some (.int .i64 c.o2) ∧ W.cell? ⟨z, 6, none⟩ = some (.bool c.has) ∧ W.cell? ⟨z, 7, none⟩ = some (.int .i64 c.n0) ∧ W.cell? ⟨z, 8, none⟩ = some (.int .i64 c.n1) ∧ W.cell? ⟨z, 9, none⟩ = some (.int .i64 c.n2) :=
  ⟨h.cell 0 _ rfl, h.cell 1 _ rfl, h.cell 2 _ rfl, h.cell 3 _ rfl, h.cell 4 _ rfl, h.cell 5 _ rfl, h.cell 6 _ rfl, h.cell 7 _ rfl, h.cell 8 _ rfl, h.cell 9 _ rfl⟩
theorem BoxL.put5 {W : World} {z : Nat} {u0 u1 u2 u3 u4 : Value} (h : BoxL W z [u0, u1, u2, u3, u4]) (r : R5) : ∃ W2, (((((W.setCell ⟨z, 0, none⟩ (.int .i64 r.tb)).setCell ⟨z, 1, none⟩ (.int .i64 r.ky)).setCell ⟨z, 2, none⟩ (.int .i64 r.a)).setCell ⟨z, 3, none⟩ (.int .i64 r.b)).setCell ⟨z, 4, none⟩ (.int .i64 r.c)) = W2 ∧ BoxL W2 z (rowC r) ∧ Keep (fun i => i = z) W W2 :=
  ⟨_, rfl, (((((h.set 0 (by simp) (.int .i64 r.tb)).set 1 (by simp) (.int .i64 r.ky)).set 2 (by simp) (.int .i64 r.a)).set 3 (by simp) (.int .i64 r.b)).set 4 (by simp) (.int .i64 r.c)), ((((((Keep.refl (fun i => i = z) W).setCell (p := ⟨z, 0, none⟩) (.int .i64 r.tb) (.inl rfl)).setCell (p := ⟨z, 1, none⟩) (.int .i64 r.ky) (.inl rfl)).setCell (p := ⟨z, 2, none⟩) (.int .i64 r.a) (.inl rfl)).setCell (p := ⟨z, 3, none⟩) (.int .i64 r.b) (.inl rfl)).setCell (p := ⟨z, 4, none⟩) (.int .i64 r.c) (.inl rfl))⟩
theorem BoxL.put10 {W : World} {z : Nat} {u0 u1 u2 u3 u4 u5 u6 u7 u8 u9 : Value} (h : BoxL W z [u0, u1, u2, u3, u4, u5, u6, u7, u8, u9]) (c : Chg) : ∃ W2, ((((((((((W.setCell ⟨z, 0, none⟩ (.int .i64 c.tb)).setCell ⟨z, 1, none⟩ (.int .i64 c.ky)).setCell ⟨z, 2, none⟩ (.bool c.had)).setCell ⟨z, 3, none⟩ (.int .i64 c.o0)).setCell ⟨z, 4, none⟩ (.int .i64 c.o1)).setCell ⟨z, 5, none⟩ (.int .i64 c.o2)).setCell ⟨z, 6, none⟩ (.bool c.has)).setCell ⟨z, 7, none⟩ (.int .i64 c.n0)).setCell ⟨z, 8, none⟩ (.int .i64 c.n1)).setCell ⟨z, 9, none⟩ (.int .i64 c.n2)) = W2 ∧ BoxL W2 z (chC c) ∧ Keep (fun i => i = z) W W2 :=
  ⟨_, rfl, ((((((((((h.set 0 (by simp) (.int .i64 c.tb)).set 1 (by simp) (.int .i64 c.ky)).set 2 (by simp) (.bool c.had)).set 3 (by simp) (.int .i64 c.o0)).set 4 (by simp) (.int .i64 c.o1)).set 5 (by simp) (.int .i64 c.o2)).set 6 (by simp) (.bool c.has)).set 7 (by simp) (.int .i64 c.n0)).set 8 (by simp) (.int .i64 c.n1)).set 9 (by simp) (.int .i64 c.n2)), (((((((((((Keep.refl (fun i => i = z) W).setCell (p := ⟨z, 0, none⟩) (.int .i64 c.tb) (.inl rfl)).setCell (p := ⟨z, 1, none⟩) (.int .i64 c.ky) (.inl rfl)).setCell (p := ⟨z, 2, none⟩) (.bool c.had) (.inl rfl)).setCell (p := ⟨z, 3, none⟩) (.int .i64 c.o0) (.inl rfl)).setCell (p := ⟨z, 4, none⟩) (.int .i64 c.o1) (.inl rfl)).setCell (p := ⟨z, 5, none⟩) (.int .i64 c.o2) (.inl rfl)).setCell (p := ⟨z, 6, none⟩) (.bool c.has) (.inl rfl)).setCell (p := ⟨z, 7, none⟩) (.int .i64 c.n0) (.inl rfl)).setCell (p := ⟨z, 8, none⟩) (.int .i64 c.n1) (.inl rfl)).setCell (p := ⟨z, 9, none⟩) (.int .i64 c.n2) (.inl rfl))⟩
theorem keep_cells (W : World) (cs : Array Value) (t : TypeId) : Keep (fun _ => False) W (W.alloc (.cells cs t)) := (Keep.refl _ W).alloc _

set_option maxRecDepth 100000 in
set_option maxHeartbeats 1000000 in
theorem okRow_any (r : R5) (hf : r.fine) (w : World) : Calls Tryz.prog 100 #[rowV r] w fun e w' => e = .returned (.bool (okRow r)) ∧ Keep (fun _ => False) w w' := by
  have K0 := Lib.hid (keep_cells w (rowC r).toArray 37)
  have HB0 := Lib.hid (BoxL.new w (rowC r) 37)
  have HF := Lib.hid hf
  have HO : Hid (okRow r = (wiB 0 3 [r.tb] && (wiB 1 1000000 [r.ky] && wiB (-1000000000) 1000000000 [r.a, r.b, r.c]))) := Lib.hid rfl
  clear hf
  go_enter Tryz.func100, Tryz.ntmps100
  go_upto_region 1 with (fail)
  generalize hW0 : w.alloc (.cells (rowC r).toArray 37) = W0 at *
  generalize w.heap.size = z at *
  obtain ⟨c0, c1, -, -, -⟩ := HB0.out.row
  have I1 := Lib.hid (its_one W0 r.tb 3 HF.out.1)
  have KA1 := Lib.hid (K0.out.alloc (.cells #[.int .i64 r.tb] 3))
  have HB1 := Lib.hid (HB0.out.kept (keep_cells W0 #[.int .i64 r.tb] 3))
  go_wp2_with fail
  with_reducible refine (rwithin_any 0 3 _ [r.tb] _ I1.out).mono ?_
  rintro e W1 ⟨rfl, k1⟩
  have K1 := Lib.hid (KA1.out.trans k1)
  have HB2 := Lib.hid (HB1.out.kept k1)
  clear k1 I1 KA1 HB1 c0 c1
  cases h1 : wiB 0 3 [r.tb] with
  | false =>
    rw [h1] at HO
    go_wp2_with fail
    go_ret
    exact ⟨by rw [HO.out]; rfl, K1.out⟩
  | true =>
    rw [h1] at HO
    obtain ⟨-, c1, -, -, -⟩ := HB2.out.row
    have I1 := Lib.hid (its_one W1 r.ky 3 HF.out.2.1)
    have KA1 := Lib.hid (K1.out.alloc (.cells #[.int .i64 r.ky] 3))
    have HB1 := Lib.hid (HB2.out.kept (keep_cells W1 #[.int .i64 r.ky] 3))
    go_wp2_with fail
    with_reducible refine (rwithin_any 1 1000000 _ [r.ky] _ I1.out).mono ?_
    rintro e W2 ⟨rfl, k1⟩
    have K2 := Lib.hid (KA1.out.trans k1)
    have HB3 := Lib.hid (HB1.out.kept k1)
    clear k1 I1 KA1 HB1 c1
    cases h2 : wiB 1 1000000 [r.ky] with
    | false =>
      rw [h2] at HO
      go_wp2_with fail
      go_ret
      exact ⟨by rw [HO.out]; rfl, K2.out⟩
    | true =>
      rw [h2] at HO
      have I2 := Lib.hid (its_v HB3.out HF.out)
      go_wp2_with fail
      with_reducible refine (rwithin_any (-1000000000) 1000000000 _ [r.a, r.b, r.c] _ I2.out).mono ?_
      rintro e W3 ⟨rfl, k1⟩
      have K3 := Lib.hid (K2.out.trans k1)
      clear k1
      generalize wiB (-1000000000) 1000000000 [r.a, r.b, r.c] = q at *
      go_wp2_with fail
      go_ret
      exact ⟨by rw [HO.out]; rfl, K3.out⟩
end Go.Proofs.YtmndjicaofciiaaGreatDoor
