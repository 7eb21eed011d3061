/-
  QueryScans: the walk.
-/
import Derived.Test.YtmndjicaofciiaaGreatDoorH13
import Derived.Test.YtmndjicaofciiaaGreatDoorW16
namespace Go.Proofs.YtmndjicaofciiaaGreatDoor
open Go.RowKit Go.Shelf Go.Extern Go.Stop

theorem eqIn_v3' (a b c a' b' c' : Int) (w : World) : (Op.equalIn 9999 35 (v3V a b c) (v3V a' b' c')).run Tryz.prog w = .ok (a == a' && (b == b' && c == c')) w := by
  obtain ⟨i, hi⟩ : ∃ i, Tryz.prog.info? 3 = some i := Option.isSome_iff_exists.1 (by kernel_rfl)
  have u3 := Tryz.underlying3
  have a3 := Tryz.isAgg3
  have z3 : Tryz.prog.cellsOf 3 = 1 := by kernel_rfl
  rw [show (9999 : Nat) = 9998 + 1 from rfl, run_equalIn_array w 9998 _ _ Tryz.underlying35 hi, z3]
  have r3 : List.range 3 = [0, 1, 2] := rfl
  rw [r3]
  simp only [Op.eqItems]
  go_simp
  (repeat' split) <;> simp [*]
theorem eql_row (a b : R5) (w : World) : (binOp .eql 37 (rowV a) (rowV b)).run Tryz.prog w = .ok (.bool (a.tb == b.tb && (a.ky == b.ky && (a.a == b.a && (a.b == b.b && a.c == b.c))))) w := by
  have hS : Tryz.prog.underlying 37 = some (.struct (Tryz.prog.fieldsOf 37)) := by kernel_rfl
  have hp : Tryz.prog.stoodInHeld 37 = false := by kernel_rfl
  obtain ⟨a0, a1, a2, a3, a4⟩ := a
  obtain ⟨b0, b1, b2, b3, b4⟩ := b
  rw [run_eql_struct, show (10000 : Nat) = 9999 + 1 from rfl, run_equalIn_agg w 9999 37 _ _ hS hp]
  have u3 := Tryz.underlying3
  have i3 := Tryz.isAgg3
  have z3 := Tryz.sizeOf3
  have i5 := Tryz.isAgg35
  have z5 := Tryz.sizeOf35
  have e5 := eqIn_v3' a2 a3 a4 b2 b3 b4
  simp only [Program.fieldsOf, Tryz.underlying37]
  go_simp
  by_cases h0 : a0 = b0 <;> by_cases h1 : a1 = b1 <;> by_cases h2 : a2 = b2 <;> by_cases h3 : a3 = b3 <;> by_cases h4 : a4 = b4 <;> simp [*]
theorem guardR : Tryz.prog.eqGuardType Tryz.prog.depth 37 = false := by kernel_rfl
theorem Rws.at_slice {W : World} {a : Option Addr} {n c : Nat} {l : List R5} (h : Rws W (.slice a n c) l) {i : Nat} {r : R5} (hi : l[i]? = some r) :
    ∃ b off, a = some ⟨b, off, none⟩ ∧ ∀ j x, (rowC r)[j]? = some x → W.cell? ⟨b, off + i * 5 + j, none⟩ = some x := by
  obtain ⟨hn, a', c', b, off, hv, hc, ha, h1⟩ := h
  injection hv with e1 e2 e3
  subst e1 e2 e3
  exact ⟨b, off, ha (by have := (List.getElem?_eq_some_iff.1 hi).1; omega), fun j x hj => h1 i r hi j x hj⟩
theorem Rws.form {W : World} {v : Value} {l : List R5} (h : Rws W v l) : ∃ a c, v = .slice a l.length c ∧ l.length ≤ c := by
  obtain ⟨hn, a', c', b, off, hv, hc, ha, h1⟩ := h
  exact ⟨a', c', hv, hc⟩
theorem keep_drewN {A : Nat → Prop} {a w : World} (h : Keep A a w) (k : Nat) : Keep A a (w.drewN k) := ⟨h.os, h.tape, h.output, h.size, h.block⟩
/-- What the law finds for a query that is valid. -/
structure Found (q : Qy) (l R A : List R5) : Prop where
  r : R.Perm (l.filter (inR q.tb q.cl q.lo q.hi))
  a : A.Perm (l.filter (ofT q.tb))
  nd : (l.map R5.rid).Nodup
theorem Found.count {q : Qy} {l R A : List R5} (h : Found q l R A) : (A.filter (betw q.cl q.lo q.hi)).length = R.length := scan_count h.r h.a
theorem Found.one {q : Qy} {l R A : List R5} (h : Found q l R A) (hq : q.ok) (hk : q.kd = 1) : R = (getR l q.tb q.lo).toList := by
  have hf := hq.2
  unfold Qy.form at hf
  have h1 : q.cl = 0 ∧ q.lo = q.hi := by omega
  have h2 := h.r
  rw [h1.1, ← h1.2] at h2
  exact row_one h.nd h2
theorem ok_bd {q : Qy} (h : q.ok) : I64 q.tb ∧ I64 q.lo ∧ 0 ≤ q.cl ∧ q.cl < 4 := by
  have h1 := h.1
  unfold Qy.base at h1
  unfold I64
  omega
set_option maxRecDepth 100000 in
set_option maxHeartbeats 8000000 in
theorem scans_law (p : Addr) (v : Value) (n : Nat) (f : Nat → Nat → Int) (q : Qy) (w : World) (h : Fives w v n f) (hE : Env p w) : Calls Tryz.prog 3 #[v, qV q] w fun e w' => e = .returned (.bool true) ∧ Keep (fun _ => False) w w' := by
  have HE := Lib.hid hE
  have ka : Keep (fun _ => False) w (w.alloc (.cells #[.int .i64 q.kd, .int .i64 q.tb, .int .i64 q.cl, .int .i64 q.lo, .int .i64 q.hi, .int .i64 q.bb, .int .i64 q.ot] 24)) := (Keep.refl _ w).alloc _
  have HB1 := Lib.hid (QBox.new w q 24)
  have HF1 := Lib.hid (h.kept ka)
  have HK1 := Lib.hid ka
  have HSC := Lib.hid (scan_any q)
  have HVA := Lib.hid (valid_any q)
  clear hE ka h
  go_enter Tryz.func3, Tryz.ntmps3
  go_upto_region 1 with (fail)
  generalize w.alloc (.cells #[.int .i64 q.kd, .int .i64 q.tb, .int .i64 q.cl, .int .i64 q.lo, .int .i64 q.hi, .int .i64 q.bb, .int .i64 q.ot] 24) = V1 at *
  generalize w.heap.size = zq at *
  go_wp2_with fail
  with_reducible refine (sane05_any p V1 (HE.out.kept HK1.out)).mono ?_
  rintro e V2 ⟨rfl, k⟩
  have HB2 := Lib.hid (HB1.out.kept k)
  have HF2 := Lib.hid (HF1.out.kept k)
  have HK2 := Lib.hid (HK1.out.trans k)
  clear k HB1 HF1 HK1
  go_wp2_with fail
  with_reducible refine (state_any v n f V2 HF2.out).mono ?_
  rintro e V3 ⟨z, mb, l, ps, rfl, hst, hl, k⟩
  have HST3 := Lib.hid hst
  have HL := Lib.hid hl
  have HB3 := Lib.hid (HB2.out.kept k)
  have HK3 := Lib.hid (HK2.out.trans k)
  clear k hst hl HB2 HF2 HK2
  obtain ⟨c0, c1, c2, c3, c4, c5, c6⟩ := HB3.out.cells
  go_wp2_with fail
  clear c0 c1 c2 c3 c4 c5 c6
  refine (HSC.out V3).mono ?_
  rintro e V4 ⟨rfl, k⟩
  have HST4 := Lib.hid (HST3.out.kept k)
  have HB4 := Lib.hid (HB3.out.kept k)
  have HK4 := Lib.hid (HK3.out.trans k)
  clear k HST3 HB3 HK3
  by_cases hok : q.ok
  · have HOK := Lib.hid hok
    unfold scanV
    rw [if_pos hok]
    rw [decide_eq_true hok] at HVA
    clear hok
    obtain ⟨c0, c1, c2, c3, c4, c5, c6⟩ := HB4.out.cells
    go_wp2_with fail
    clear c0 c1 c2 c3 c4 c5 c6
    with_reducible refine (HVA.out V4).mono ?_
    rintro e V5 ⟨rfl, k⟩
    have HST5 := Lib.hid (HST4.out.kept k)
    have HB5 := Lib.hid (HB4.out.kept k)
    have HK5 := Lib.hid (HK4.out.trans k)
    clear k HST4 HB4 HK4
    go_wp2_with fail
    with_reducible refine (range_any z mb l ps q.tb q.cl q.lo q.hi V5 HST5.out (by have := HL.out; omega) (ok_bd HOK.out).2.2).mono ?_
    rintro e V6 ⟨R, vr, rfl, hR, hrw, k⟩
    have HR := Lib.hid hR
    have HRW6 := Lib.hid hrw
    have HST6 := Lib.hid (HST5.out.kept k)
    have HB6 := Lib.hid (HB5.out.kept k)
    have HK6 := Lib.hid (HK5.out.trans k)
    clear k HST5 HB5 HK5 hR hrw
    obtain ⟨-, c1, -, -, -, -, -⟩ := HB6.out.cells
    go_wp2_with fail
    clear c1
    with_reducible refine (rows_any z mb l ps q.tb V6 HST6.out (by have := HL.out; omega)).mono ?_
    rintro e V7 ⟨A, va, rfl, hA, hrw, k⟩
    have HFD : Hid (Found q l R A) := Lib.hid ⟨HR.out, hA, HST6.out.nd⟩
    have HRA7 := Lib.hid hrw
    have HRW7 := Lib.hid (HRW6.out.kept k)
    have HST7 := Lib.hid (HST6.out.kept k)
    have HB7 := Lib.hid (HB6.out.kept k)
    have HK7 := Lib.hid (HK6.out.trans k)
    clear k HST6 HB6 HK6 hA hrw HRW6 HR
    obtain ⟨aa, ca, hva, hca⟩ := HRA7.out.form
    obtain ⟨ar, cr, hvr, hcr⟩ := HRW7.out.form
    obtain ⟨na, hna⟩ : ∃ n, A.length = n := ⟨_, rfl⟩
    have HNA := Lib.hid hna
    rw [hna] at hva hca
    have hnb : na ≤ 1000000000 := by rw [← hna]; exact HRA7.out.n
    subst hva hvr
    clear hna
    go_wp2_with fail
    go_loopg [12, 14] na (fun gh v12 v14 wr => ∃ k : Nat, gh + k = na ∧ v14 = .int .i64 k ∧ v12 = .int .i64 ((((A.take k).filter (betw q.cl q.lo q.hi)).length : Nat) : Int) ∧ Keep (fun _ => False) V7 wr)
    case atStart => exact ⟨0, by omega, rfl, rfl, Keep.refl _ _⟩
    case round =>
      obtain ⟨k, hk, rfl, rfl, hkw⟩ := hrel
      have HKW := Lib.hid hkw
      clear hkw
      by_cases hlt : k < na
      · obtain ⟨r, hr⟩ : ∃ x, A[k]? = some x := ⟨_, List.getElem?_eq_getElem (by have := HNA.out; omega)⟩
        rw [show (Value.slice aa na ca) = .slice aa A.length ca by rw [HNA.out]] at HRA7
        obtain ⟨b, off, hab, hcell⟩ := HRA7.out.at_slice hr
        subst hab
        have HTK : Hid ((A.take (k + 1)).filter (betw q.cl q.lo q.hi) = (A.take k).filter (betw q.cl q.lo q.hi) ++ if betw q.cl q.lo q.hi r then [r] else []) := Lib.hid (by
          rw [List.take_add_one, hr, List.filter_append]
          congr 1
          simp only [Option.toList_some, List.filter_cons, List.filter_nil])
        have HCN : Hid (((A.take k).filter (betw q.cl q.lo q.hi)).length ≤ 1000000000) := Lib.hid (by
          have h1 := List.length_filter_le (betw q.cl q.lo q.hi) (A.take k)
          rw [List.length_take] at h1
          have := HNA.out
          omega)
        have hc : ∀ j u, (rowC r)[j]? = some u → ∀ x : KA (fun _ => False) wr, x.val.cell? ⟨b, off + k * 5 + j, none⟩ = some u := fun j u hj x => (HKW.out.trans x.k).cell (hcell j u hj) (fun h => h)
        have HV := Lib.hid (value_kept r q.cl)
        have HBT : Hid (betw q.cl q.lo q.hi r = (decide (q.lo ≤ r.val q.cl) && decide (r.val q.cl ≤ q.hi))) := Lib.hid rfl
        clear hr hcell
        generalize r.val q.cl = vl at *
        generalize ((A.take k).filter (betw q.cl q.lo q.hi)) = F at *
        obtain ⟨cn, hcn⟩ : ∃ n, F.length = n := ⟨_, rfl⟩
        have HCE := Lib.hid hcn
        rw [hcn] at HCN ⊢
        clear hcn
        have hcnb := HCN.out
        obtain ⟨r0, r1, r2, r3, r4⟩ := r
        have c0 : ∀ x : KA (fun _ => False) wr, x.val.cell? ⟨b, off + k * 5, none⟩ = some (.int .i64 r0) := hc 0 _ rfl
        have c1 := hc 1 _ rfl
        have c2 := hc 2 _ rfl
        have c3 := hc 3 _ rfl
        have c4 := hc 4 _ rfl
        simp only [] at c1 c2 c3 c4
        clear hc
        have hkz : (k : Int) < (na : Int) := by omega
        have hk0 : (0 : Int) ≤ (k : Int) := by omega
        go_upto_region 14 with (fail)
        have HKD : Hid (Keep (fun _ => False) wr wr.drew) := Lib.hid (Keep.refl _ wr).drew
        have HB8 : Hid (QBox wr.drew zq q) := Lib.hid (HB7.out.kept (HKW.out.trans HKD.out))
        refine wp_region_walk [(true, 0), (true, 1), (true, 2), (true, 3), (false, 4), (false, 5), (false, 6), (false, 7)] (inKA (fun _ => False) wr) (by kernel_rfl) (by kernel_rfl) ?_
        iterate 4 (refine walkW_read rfl (fun K hK => ?_); go_simp; refine hK _ ?_; clear hK K)
        clear c0 c1 c2 c3 c4
        obtain ⟨-, -, d2, -, -, -, -⟩ := HB8.out.cells
        iterate 2 (refine walkW_do rfl (inKA.of HKD.out) (fun K hK => ?_); go_simp; refine hK _ _ ?_; clear hK K)
        clear d2
        refine walkW_do rfl (inKA.of HKD.out) (fun K hK => ?_)
        go_simp
        refine (HV.out _).mono ?_
        rintro e W9 ⟨rfl, k9, -⟩
        have HK9 := Lib.hid (HKD.out.trans k9)
        have HB9 := Lib.hid (HB8.out.kept k9)
        clear k9
        refine hK _ _ ?_
        clear hK K
        refine walkW_do rfl (inKA.of HK9.out) (fun K hK => ?_)
        go_simp
        refine hK _ _ ?_
        clear hK K
        refine ⟨inKA.of HK9.out, ?_⟩
        have HKW9 := Lib.hid (HKW.out.trans HK9.out)
        obtain ⟨-, -, -, d3, d4, -, -⟩ := HB9.out.cells
        by_cases g1 : q.lo ≤ vl
        · by_cases g2 : vl ≤ q.hi
          · have HFL : Hid ((A.take (k + 1)).filter (betw q.cl q.lo q.hi) = F ++ [⟨r0, r1, r2, r3, r4⟩]) := Lib.hid (by rw [HTK.out, HBT.out, decide_eq_true g1, decide_eq_true g2]; rfl)
            go_wp2_with fail
            go_roundg (gk - 1)
            case rel => exact ⟨k + 1, by omega, by go_num, by rw [HFL.out, List.length_append, HCE.out]; go_num, HKW9.out⟩
            case measure => omega
          · have HFL : Hid ((A.take (k + 1)).filter (betw q.cl q.lo q.hi) = F) := Lib.hid (by rw [HTK.out, HBT.out, decide_eq_true g1, decide_eq_false g2]; simp)
            go_wp2_with fail
            go_roundg (gk - 1)
            case rel => exact ⟨k + 1, by omega, by go_num, by rw [HFL.out, HCE.out], HKW9.out⟩
            case measure => omega
        · have HFL : Hid ((A.take (k + 1)).filter (betw q.cl q.lo q.hi) = F) := Lib.hid (by rw [HTK.out, HBT.out, decide_eq_false g1]; simp)
          go_wp2_with fail
          go_roundg (gk - 1)
          case rel => exact ⟨k + 1, by omega, by go_num, by rw [HFL.out, HCE.out], HKW9.out⟩
          case measure => omega
      · have HCE : Hid (((A.take k).filter (betw q.cl q.lo q.hi)).length = R.length) := Lib.hid (by
          rw [List.take_of_length_le (by have := HNA.out; omega)]
          exact HFD.out.count)
        rw [HCE.out]
        have hkz : ¬ (k : Int) < (na : Int) := by omega
        have HB8 := Lib.hid (HB7.out.kept HKW.out)
        have HST8 := Lib.hid (HST7.out.kept HKW.out)
        have HRW8 := Lib.hid (HRW7.out.kept HKW.out)
        have HK8 := Lib.hid (HK7.out.trans HKW.out)
        by_cases hkd : q.kd = 1
        · have HON := Lib.hid (HFD.out.one HOK.out hkd)
          have hb1 : (q.kd == 1) = true := by simpa using hkd
          obtain ⟨d0, d1, -, d3, -, -, -⟩ := HB8.out.cells
          clear hkd
          go_wp2_with fail
          clear d0 d1 d3
          with_reducible refine (get_any z mb l ps q.tb q.lo wr HST8.out (ok_bd HOK.out).1 (ok_bd HOK.out).2.1).mono ?_
          rintro e W9 ⟨rfl, k9⟩
          have HK9 := Lib.hid (HK8.out.trans k9)
          have HRW9 := Lib.hid (HRW8.out.kept k9)
          clear k9
          cases hg : getR l q.tb q.lo with
          | none =>
            have hR0 : R = [] := by rw [HON.out, hg]; rfl
            subst hR0
            clear hg
            have hlk : lookV (none : Option R5) = .tuple #[rowV ⟨0, 0, 0, 0, 0⟩, .bool false] := rfl
            rw [hlk]
            clear hlk
            go_upto_region 19 with (fail)
            have HKA := Lib.hid (HK9.out.alloc (.cells #[.int .i64 0, .int .i64 0, .int .i64 0, .int .i64 0, .int .i64 0] 37))
            generalize W9.alloc (.cells #[.int .i64 0, .int .i64 0, .int .i64 0, .int .i64 0, .int .i64 0] 37) = WA at *
            go_quiet (fail)
            go_wp2_with fail
            go_ret
            exact ⟨rfl, keep_drewN HKA.out nq⟩
          | some r =>
            have hR0 : R = [r] := by rw [HON.out, hg]; rfl
            subst hR0
            clear hg
            obtain ⟨b, off, hab, hcell⟩ := HRW9.out.at_slice (i := 0) (r := r) rfl
            subst hab
            obtain ⟨r0, r1, r2, r3, r4⟩ := r
            have hlk : lookV (some (⟨r0, r1, r2, r3, r4⟩ : R5)) = .tuple #[rowV ⟨r0, r1, r2, r3, r4⟩, .bool true] := rfl
            rw [hlk]
            clear hlk
            go_upto_region 19 with (fail)
            have HBA := Lib.hid (BoxL.new W9 (rowC ⟨r0, r1, r2, r3, r4⟩) 37)
            have HKA := Lib.hid (HK9.out.alloc (.cells (rowC ⟨r0, r1, r2, r3, r4⟩).toArray 37))
            have kb := keep_cells W9 (rowC ⟨r0, r1, r2, r3, r4⟩).toArray 37
            have e1 : W9.alloc (.cells #[.int .i64 r0, .int .i64 r1, .int .i64 r2, .int .i64 r3, .int .i64 r4] 37) = W9.alloc (.cells (rowC ⟨r0, r1, r2, r3, r4⟩).toArray 37) := rfl
            rw [e1]
            clear e1
            have hc : ∀ j u, (rowC ⟨r0, r1, r2, r3, r4⟩)[j]? = some u → (W9.alloc (.cells (rowC ⟨r0, r1, r2, r3, r4⟩).toArray 37)).cell? ⟨b, off + j, none⟩ = some u := fun j u hj => by
              have h1 := hcell j u hj
              have e : off + 0 * 5 + j = off + j := by omega
              rw [e] at h1
              exact kb.cell h1 (fun h => h)
            generalize W9.alloc (.cells (rowC ⟨r0, r1, r2, r3, r4⟩).toArray 37) = WA at *
            generalize W9.heap.size = zx at *
            have c0 := hc 0 _ rfl
            rw [Nat.add_zero] at c0
            have c1 := hc 1 _ rfl
            have c2 := hc 2 _ rfl
            have c3 := hc 3 _ rfl
            have c4 := hc 4 _ rfl
            simp only [] at c0 c1 c2 c3 c4
            obtain ⟨d0, d1, d2, d3, d4⟩ := HBA.out.row
            simp only [] at d0 d1 d2 d3 d4
            have heq : ∀ w, (binOp .eql 37 (rowV ⟨r0, r1, r2, r3, r4⟩) (rowV ⟨r0, r1, r2, r3, r4⟩)).run Tryz.prog w = .ok (.bool true) w := fun w => by rw [eql_row]; simp
            have hgd := guardR
            clear hc hcell kb
            go_quiet (fail)
            clear c0 c1 c2 c3 c4 d0 d1 d2 d3 d4 heq hgd
            go_wp2_with fail
            go_ret
            exact ⟨rfl, keep_drewN HKA.out nq⟩
        · have hb1 : (q.kd == 1) = false := by simpa using hkd
          obtain ⟨d0, -, -, -, -, -, -⟩ := HB8.out.cells
          clear hkd
          go_wp2_with fail
          go_ret
          exact ⟨rfl, HK8.out⟩
  · unfold scanV
    rw [if_neg hok]
    rw [decide_eq_false hok] at HVA
    clear hok
    obtain ⟨c0, c1, c2, c3, c4, c5, c6⟩ := HB4.out.cells
    go_wp2_with fail
    clear c0 c1 c2 c3 c4 c5 c6
    with_reducible refine (HVA.out V4).mono ?_
    rintro e V5 ⟨rfl, k⟩
    have HK5 := Lib.hid (HK4.out.trans k)
    clear k
    go_wp2_with fail
    go_ret
    exact ⟨rfl, HK5.out⟩
end Go.Proofs.YtmndjicaofciiaaGreatDoor
