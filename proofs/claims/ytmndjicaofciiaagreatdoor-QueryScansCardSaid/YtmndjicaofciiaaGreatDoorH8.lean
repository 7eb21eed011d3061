/-
  After of package row; fits of package store.
-/
import Derived.Test.YtmndjicaofciiaaGreatDoorH7
namespace Go.Proofs.YtmndjicaofciiaaGreatDoor
open Go.RowKit Go.Shelf

set_option maxRecDepth 100000 in
set_option maxHeartbeats 2000000 in
theorem after_any (c : Chg) (w : World) : Calls Tryz.prog 29 #[chV c] w fun e w' => e = .returned (.tuple #[rowV (halfR c.new c.has), .bool c.has]) ∧ Keep (fun _ => False) w w' := by
  have K1 : Keep (fun _ => False) w (w.alloc (.cells (chC c).toArray 51)) := keep_cells _ _ _
  have B1 := BoxL.new w (chC c) 51
  have HHF : Hid (∀ W, Calls Tryz.prog 47 #[chV c, .bool c.has, v3V c.n0 c.n1 c.n2] W fun e w' => e = .returned (.tuple #[rowV (halfR c.new c.has), .bool c.has]) ∧ Keep (fun _ => False) W w') := Lib.hid (half_any c c.has c.n0 c.n1 c.n2)
  have HR : Hid (R5.mk 0 0 0 0 0 = ⟨0, 0, 0, 0, 0⟩) := Lib.hid rfl
  obtain ⟨tb, ky, had, o0, o1, o2, has, n0, n1, n2⟩ := c
  generalize halfR (Chg.new ⟨tb, ky, had, o0, o1, o2, has, n0, n1, n2⟩) (Chg.has ⟨tb, ky, had, o0, o1, o2, has, n0, n1, n2⟩) = r at *
  obtain ⟨r0, r1, r2, r3, r4⟩ := r
  have K2 := K1.alloc (.cells #[.int .i64 0, .int .i64 0, .int .i64 0, .int .i64 0, .int .i64 0] 37)
  have B2 := B1.kept (keep_cells _ #[.int .i64 0, .int .i64 0, .int .i64 0, .int .i64 0, .int .i64 0] 37)
  have V2 := BoxL.new (w.alloc (.cells #[.int .i64 tb, .int .i64 ky, .bool had, .int .i64 o0, .int .i64 o1, .int .i64 o2, .bool has, .int .i64 n0, .int .i64 n1, .int .i64 n2] 51)) [.int .i64 0, .int .i64 0, .int .i64 0, .int .i64 0, .int .i64 0] 37
  simp only [World.size_alloc] at V2
  have HK := Lib.hid K2
  have HB := Lib.hid B2
  have HV := Lib.hid V2
  have HZ : Hid (w.heap.size ≤ w.heap.size + 1) := Lib.hid (by omega)
  clear K1 K2 B1 B2 V2
  go_enter Tryz.func29, Tryz.ntmps29
  go_upto_region 1 with (fail)
  generalize ((w.alloc (.cells #[.int .i64 tb, .int .i64 ky, .bool had, .int .i64 o0, .int .i64 o1, .int .i64 o2, .bool has, .int .i64 n0, .int .i64 n1, .int .i64 n2] 51)).alloc (.cells #[.int .i64 0, .int .i64 0, .int .i64 0, .int .i64 0, .int .i64 0] 37)) = W at *
  generalize w.heap.size + 1 = zr at *
  obtain ⟨c0, c1, c2, c3, c4, c5, c6, c7, c8, c9⟩ := HB.out.chg
  simp only [] at c0 c1 c2 c3 c4 c5 c6 c7 c8 c9
  go_wp2_with fail
  clear c0 c1 c2 c3 c4 c5 c6 c7 c8 c9
  with_reducible refine (HHF.out W).mono ?_
  rintro e W3 ⟨rfl, k⟩
  have HK3 := Lib.hid (HK.out.trans k)
  have HV3 := Lib.hid (HV.out.kept k)
  clear k
  obtain ⟨q0, q1, q2, q3, q4⟩ := HV3.out.row (r := ⟨0, 0, 0, 0, 0⟩)
  have fr := HV3.out.soft
  go_wp2_with fail
  obtain ⟨W2, hW, hb, hk⟩ := HV3.out.put5 ⟨r0, r1, r2, r3, r4⟩
  simp only [] at hW
  rw [hW]
  obtain ⟨d0, d1, d2, d3, d4⟩ := hb.row
  refine bodyPost_ret (v := .tuple #[rowV ⟨r0, r1, r2, r3, r4⟩, .bool has]) (by simp [results, Tryz.results29, go_sem, d0, d1, d2, d3, d4]) rfl ?_
  exact ⟨rfl, keep0 HK3.out HZ.out hk⟩
set_option maxRecDepth 100000 in
set_option maxHeartbeats 4000000 in
theorem fits_any (z mb : Nat) (l : List R5) (p q : Int) (v : Value) (cs : List Chg) (w : World) (h : StA w z mb l p) (hc : Chs w v cs) (hp : 0 ≤ p ∧ p ≤ 10000) (hq : I64 q) (hl : l.length ≤ 1000000) :
    Calls Tryz.prog 28 #[ptr z, recV q v] w fun e w' => e = .returned (.bool (fitsB l p q cs)) ∧ Keep (fun _ => False) w w' := by
  have K0 := keep_cells w #[.int .i64 q, v] 55
  have HB0 := Lib.hid (BoxL.new w [.int .i64 q, v] 55)
  have HS0 := Lib.hid (h.kept K0)
  have HC0 := Lib.hid (hc.kept K0)
  have HK0 := Lib.hid K0
  have HVR : Hid (∀ W, Chs W v cs → Calls Tryz.prog 46 #[recV q v] W fun e w' => e = .returned (.bool (okRec q cs)) ∧ Keep (fun _ => False) W w') := Lib.hid (fun W hW => validRec_any q v cs W hW hq)
  have HO : Hid (fitsB l p q cs = (okRec q cs && (q == p + 1 && (cs.all (fit1 l) && decide (sizeC l.length cs ≤ 2000))))) := Lib.hid rfl
  have hwr : IntKind.i64.wrap (p + 1) = p + 1 := wrapI (by unfold I64; omega)
  generalize okRec q cs = ok at *
  clear h hc hq K0
  go_enter Tryz.func28, Tryz.ntmps28
  go_upto_region 1 with (fail)
  generalize w.alloc (.cells #[.int .i64 q, v] 55) = W0 at *
  generalize w.heap.size = zr at *
  have HK1 : Hid (Keep (fun _ => False) w W0.drew) := Lib.hid HK0.out.drew
  have HB1 := Lib.hid HB0.out.drew
  have HS1 := Lib.hid HS0.out.drew
  have HC1 := Lib.hid (HC0.out.kept (Keep.refl _ W0).drew)
  have HKD : Hid (Keep (fun _ => False) W0 W0.drew) := Lib.hid (Keep.refl _ W0).drew
  have HA : Hid (∀ p : KA (fun _ => False) W0, p.val.cell? ⟨zr, 0, none⟩ = some (.int .i64 q)) := Lib.hid (fun p => (HB0.out.kept p.k).cell 0 _ rfl)
  clear HB0 HS0 HC0
  refine wp_region_walk [(false, 0), (false, 1), (false, 2), (false, 3), (true, 4), (true, 5), (false, 6), (false, 7), (false, 8), (false, 9), (false, 10), (false, 11), (false, 12), (false, 13)] (inKA (fun _ => False) W0) (by kernel_rfl) (by kernel_rfl) ?_
  generalize W0.drew = W1 at *
  have r0 := HB1.out.cell 0 _ rfl
  have r1 := HB1.out.cell 1 _ rfl
  refine walkW_do rfl (inKA.of HKD.out) (fun K hK => ?_)
  go_simp
  refine hK _ _ ?_; clear hK K
  refine walkW_do rfl (inKA.of HKD.out) (fun K hK => ?_)
  go_simp
  clear r0 r1
  refine (HVR.out W1 HC1.out).mono ?_
  rintro e W2 ⟨rfl, k⟩
  have HK2 := Lib.hid (HK1.out.trans k)
  have HB2 := Lib.hid (HB1.out.kept k)
  have HS2 := Lib.hid (HS1.out.kept k)
  have HC2 := Lib.hid (HC1.out.kept k)
  have HKD2 := Lib.hid (HKD.out.trans k)
  clear k HK1 HB1 HS1 HC1 HKD
  refine hK _ _ ?_; clear hK K
  cases ok with
  | false =>
    iterate 2 (refine walkW_do rfl (inKA.of HKD2.out) (fun K hK => ?_); go_simp; refine hK _ _ ?_; clear hK K)
    iterate 2 (refine walkW_read rfl (fun K hK => ?_); go_simp; refine hK _ ?_; clear hK K)
    iterate 8 (refine walkW_do rfl (inKA.of HKD2.out) (fun K hK => ?_); go_simp; refine hK _ _ ?_; clear hK K)
    refine ⟨inKA.of HKD2.out, ?_⟩
    go_wp2_with fail
    go_ret
    exact ⟨by rw [HO.out]; rfl, HK2.out⟩
  | true =>
    have a0 := HA.out
    have r2 := HS2.out.box.cell 1 _ rfl
    by_cases he : q = p + 1
    · have hne : (q != p + 1) = false := by simpa using he
      have HQ : Hid ((q == p + 1) = true) := Lib.hid (by simpa using he)
      rw [HQ.out] at HO
      clear he
      iterate 2 (refine walkW_do rfl (inKA.of HKD2.out) (fun K hK => ?_); go_simp; refine hK _ _ ?_; clear hK K)
      iterate 2 (refine walkW_read rfl (fun K hK => ?_); go_simp; refine hK _ ?_; clear hK K)
      iterate 8 (refine walkW_do rfl (inKA.of HKD2.out) (fun K hK => ?_); go_simp; refine hK _ _ ?_; clear hK K)
      refine ⟨inKA.of HKD2.out, ?_⟩
      clear a0 r2 hne hwr
      obtain ⟨n, hn⟩ : ∃ n, cs.length = n := ⟨_, rfl⟩
      have HN := Lib.hid hn
      have hnb : n ≤ 1000000000 := by rw [← hn]; exact HC2.out.n
      obtain ⟨a, cp, bb, off, hv, hcp, ha, -⟩ := HC2.out.at_
      have r2 := HB2.out.cell 1 _ rfl
      have r3 := HS2.out.box.cell 0 _ rfl
      have r4 := HS2.out.len
      rw [hn] at hv hcp ha
      have HAA := Lib.hid ha
      clear hn ha
      subst hv
      go_wp2_with fail
      clear r2 r3 r4
      go_loopg [5, 33] n (fun gh v5 v33 wr => ∃ (k : Nat) (s : Int), gh + k = n ∧ v33 = .int .i64 k ∧ v5 = .int .i64 s ∧ Hid (s = sizeC l.length (cs.take k)) ∧ Hid ((cs.take k).all (fit1 l) = true) ∧ Keep (fun _ => False) W2 wr)
      case atStart => exact ⟨0, _, by omega, rfl, rfl, Lib.hid rfl, Lib.hid rfl, Keep.refl _ _⟩
      case round =>
        obtain ⟨k, s, hk, rfl, rfl, HSZ, HFI, hkw⟩ := hrel
        have HKW := Lib.hid hkw
        clear hkw
        have hs1 : -1000000000 ≤ s ∧ s ≤ 1001000000 := by
          have h1 := sizeC_le (cs.take k) l.length
          rw [← HSZ.out] at h1
          have h2 : (cs.take k).length ≤ n := by rw [List.length_take]; have := HN.out; omega
          omega
        by_cases hlt : k < n
        · obtain ⟨ch, hch⟩ : ∃ x, cs[k]? = some x := ⟨_, List.getElem?_eq_getElem (by have := HN.out; omega)⟩
          obtain ⟨b, off, hab, hcell⟩ := (HC2.out.kept HKW.out).at_slice hch
          subst hab
          have hfin := HC2.out.fine ch (List.mem_of_getElem? hch)
          have HTK : Hid (cs.take (k + 1) = cs.take k ++ [ch]) := Lib.hid (by rw [List.take_add_one, hch]; rfl)
          have HMEM := Lib.hid (List.mem_of_getElem? hch)
          have HB5 := Lib.hid (BoxL.new wr (chC ch) 51)
          have HS5 := Lib.hid ((HS2.out.kept HKW.out).kept (keep_cells wr (chC ch).toArray 51))
          have HK5 := Lib.hid (HKW.out.alloc (.cells (chC ch).toArray 51))
          have HLK : Hid (∀ x : KA (fun _ => False) (wr.alloc (.cells (chC ch).toArray 51)), (Instr.lookup 59 (.map (some mb)) (idV ch.tb ch.ky) true).run Tryz.prog x.val = .ok (lookV (getR l ch.tb ch.ky)) x.val) := Lib.hid (fun x => (HS5.out.kept x.k).look hfin.1.1 hfin.1.2.1)
          have HFT : Hid (fit1 l ch = match getR l ch.tb ch.ky with | none => !ch.had | some r => ch.had && sameV r ch.old) := Lib.hid rfl
          clear hch hfin
          have d0 := hcell 0 _ rfl
          have d1 := hcell 1 _ rfl
          have d2 := hcell 2 _ rfl
          have d3 := hcell 3 _ rfl
          have d4 := hcell 4 _ rfl
          have d5 := hcell 5 _ rfl
          have d6 := hcell 6 _ rfl
          have d7 := hcell 7 _ rfl
          have d8 := hcell 8 _ rfl
          have d9 := hcell 9 _ rfl
          rw [Nat.add_zero] at d0
          clear hcell
          have hkz : (k : Int) < (n : Int) := by omega
          have hk0 : (0 : Int) ≤ (k : Int) := by omega
          go_upto_region 7 with (fail)
          clear d0 d1 d2 d3 d4 d5 d6 d7 d8 d9
          have e1 : wr.alloc (.cells #[.int .i64 ch.tb, .int .i64 ch.ky, .bool ch.had, .int .i64 ch.o0, .int .i64 ch.o1, .int .i64 ch.o2, .bool ch.has, .int .i64 ch.n0, .int .i64 ch.n1, .int .i64 ch.n2] 51) = wr.alloc (.cells (chC ch).toArray 51) := rfl
          rw [e1]
          clear e1
          generalize wr.alloc (.cells (chC ch).toArray 51) = W5 at *
          generalize wr.heap.size = zc at *
          have HA0 : Hid (∀ x : KA (fun _ => False) W5, x.val.cell? ⟨z, 0, none⟩ = some (.map (some mb))) := Lib.hid (fun x => (HS5.out.kept x.k).box.cell 0 _ rfl)
          have HA1 : Hid (∀ x : KA (fun _ => False) W5, x.val.cell? ⟨zc, 0, none⟩ = some (.int .i64 ch.tb)) := Lib.hid (fun x => (HB5.out.kept x.k).cell 0 _ rfl)
          have HA2 : Hid (∀ x : KA (fun _ => False) W5, x.val.cell? ⟨zc, 1, none⟩ = some (.int .i64 ch.ky)) := Lib.hid (fun x => (HB5.out.kept x.k).cell 1 _ rfl)
          obtain ⟨tb, ky, had, o0, o1, o2, has, n0, n1, n2⟩ := ch
          obtain ⟨rw, th, hrt⟩ : ∃ (r : R5) (th : Bool), lookV (getR l tb ky) = .tuple #[rowV r, .bool th] ∧ fit1 l ⟨tb, ky, had, o0, o1, o2, has, n0, n1, n2⟩ = (if th then had && sameV r ⟨tb, ky, o0, o1, o2⟩ else !had) := by
            have h1 := HFT.out
            simp only [] at h1
            cases e : getR l tb ky with
            | none => rw [e] at h1; exact ⟨⟨0, 0, 0, 0, 0⟩, false, rfl, h1⟩
            | some r => rw [e] at h1; exact ⟨r, true, rfl, h1⟩
          have HRT := Lib.hid hrt.2
          have l1 := HLK.out
          simp only [] at l1
          rw [hrt.1] at l1
          clear hrt HFT
          have HLK := Lib.hid l1
          clear l1
          obtain ⟨ra, rb, rc, rd, re⟩ := rw
          have a0 := HA0.out
          have a1 := HA1.out
          have a2 := HA2.out
          have a3 := HLK.out
          refine wp_region_walk [(true, 0), (true, 1), (true, 2), (true, 3), (true, 4), (true, 5), (true, 6), (true, 7), (true, 8), (true, 9), (true, 10), (true, 11), (true, 12), (true, 13), (false, 14), (false, 15), (false, 16)] (inKA (fun _ => False) W5) (by kernel_rfl) (by kernel_rfl) ?_
          iterate 14 (refine walkW_read rfl (fun K hK => ?_); go_simp; refine hK _ ?_; clear hK K)
          clear a0 a1 a2 a3
          have HKD5 : Hid (Keep (fun _ => False) W5 W5.drew) := Lib.hid (Keep.refl _ W5).drew
          refine walkW_do rfl (inKA.of HKD5.out) (fun K hK => ?_)
          go_simp
          refine hK _ _ ?_
          clear hK K
          have HR6 := Lib.hid (BoxL.new W5 (rowC ⟨0, 0, 0, 0, 0⟩) 37).drew
          have HK56 := Lib.hid (keep_cells W5 (rowC ⟨0, 0, 0, 0, 0⟩).toArray 37).drew
          have e1 : (W5.alloc (.cells #[.int .i64 0, .int .i64 0, .int .i64 0, .int .i64 0, .int .i64 0] 37)).drew = (W5.alloc (.cells (rowC ⟨0, 0, 0, 0, 0⟩).toArray 37)).drew := rfl
          rw [e1]
          clear e1
          generalize (W5.alloc (.cells (rowC ⟨0, 0, 0, 0, 0⟩).toArray 37)).drew = W6 at *
          obtain ⟨zx, hzx⟩ : ∃ z, W5.heap.size = z := ⟨_, rfl⟩
          have HZX := Lib.hid hzx
          rw [hzx] at HR6 ⊢
          clear hzx
          obtain ⟨q0, q1, q2, q3, q4⟩ := HR6.out.row (r := ⟨0, 0, 0, 0, 0⟩)
          have fr := HR6.out.soft
          refine walkW_do rfl (inKA.of HK56.out) (fun K hK => ?_)
          go_simp
          refine hK _ _ ?_
          clear hK K
          clear q0 q1 q2 q3 q4 fr
          obtain ⟨W7, hW, hb, hk7⟩ := HR6.out.put5 ⟨ra, rb, rc, rd, re⟩
          simp only [] at hW
          rw [hW]
          have HK57 : Hid (Keep (fun _ => False) W5 W7) := Lib.hid (keep0 HK56.out (by have := HZX.out; omega) hk7)
          have HR7 := Lib.hid hb
          clear hW hb hk7
          refine walkW_do rfl (inKA.of HK57.out) (fun K hK => ?_)
          go_simp
          refine hK _ _ ?_
          clear hK K
          refine ⟨inKA.of HK57.out, ?_⟩
          have HKW8 := Lib.hid (HK5.out.trans HK57.out)
          obtain ⟨v0, v1, v2, v3, v4⟩ := HR7.out.row
          simp only [] at v0 v1 v2 v3 v4
          obtain ⟨c0, c1, c2, c3, c4, c5, c6, c7, c8, c9⟩ := (HB5.out.kept HK57.out).chg
          simp only [] at c0 c1 c2 c3 c4 c5 c6 c7 c8 c9
          have hm := guardV
          have hneq := fun w => neq_v3 rc rd re o0 o1 o2 w
          have HSV : Hid (sameV ⟨ra, rb, rc, rd, re⟩ ⟨tb, ky, o0, o1, o2⟩ = (rc == o0 && (rd == o1 && re == o2))) := Lib.hid rfl
          obtain ⟨qq, hqq⟩ : ∃ qq, (rc == o0 && (rd == o1 && re == o2)) = qq := ⟨_, rfl⟩
          rw [hqq] at HSV
          simp only [hqq] at hneq
          clear hqq
          rw [HSV.out] at HRT
          clear HSV
          cases th <;> cases had
          case false.true =>
            have HF : Hid (cs.all (fit1 l) = false) := Lib.hid (List.all_eq_false.2 ⟨_, HMEM.out, by rw [HRT.out]; simp⟩)
            rw [HF.out] at HO
            go_wp2_with fail
            go_ret
            exact ⟨by rw [HO.out]; rfl, HK2.out.trans HKW8.out⟩
          case true.false =>
            have HF : Hid (cs.all (fit1 l) = false) := Lib.hid (List.all_eq_false.2 ⟨_, HMEM.out, by rw [HRT.out]; simp⟩)
            rw [HF.out] at HO
            go_wp2_with fail
            go_ret
            exact ⟨by rw [HO.out]; rfl, HK2.out.trans HKW8.out⟩
          case true.true =>
            cases qq with
            | false =>
              have HF : Hid (cs.all (fit1 l) = false) := Lib.hid (List.all_eq_false.2 ⟨_, HMEM.out, by rw [HRT.out]; simp⟩)
              rw [HF.out] at HO
              go_wp2_with fail
              go_ret
              exact ⟨by rw [HO.out]; rfl, HK2.out.trans HKW8.out⟩
            | true =>
              cases has
              all_goals
                go_wp2_with fail
                go_roundg (gk - 1)
                case rel => exact ⟨k + 1, _, by omega, by go_num, rfl, Lib.hid (by rw [HTK.out, sizeC_snoc, ← HSZ.out]; simp; try omega), Lib.hid (by rw [HTK.out, List.all_append, HFI.out]; simp [HRT.out]), HKW8.out⟩
                case measure => omega
          case false.false =>
            cases has
            all_goals
              go_wp2_with fail
              go_roundg (gk - 1)
              case rel => exact ⟨k + 1, _, by omega, by go_num, rfl, Lib.hid (by rw [HTK.out, sizeC_snoc, ← HSZ.out]; simp; try omega), Lib.hid (by rw [HTK.out, List.all_append, HFI.out]; simp [HRT.out]), HKW8.out⟩
              case measure => omega
        · have hkn : ¬ (k : Int) < (n : Int) := by omega
          have HF : Hid (cs.all (fit1 l) = true) := Lib.hid (by have h1 := HFI.out; rwa [List.take_of_length_le (by have := HN.out; omega)] at h1)
          have HG : Hid (sizeC l.length cs = s) := Lib.hid (by have h1 := HSZ.out; rw [List.take_of_length_le (by have := HN.out; omega)] at h1; exact h1.symm)
          rw [HF.out, HG.out] at HO
          go_wp2_with fail
          go_ret
          exact ⟨by rw [HO.out]; rfl, HK2.out.trans HKW.out⟩
    · have hne : (q != p + 1) = true := by simpa using he
      have HQ : Hid ((q == p + 1) = false) := Lib.hid (by simpa using he)
      rw [HQ.out] at HO
      clear he
      iterate 2 (refine walkW_do rfl (inKA.of HKD2.out) (fun K hK => ?_); go_simp; refine hK _ _ ?_; clear hK K)
      iterate 2 (refine walkW_read rfl (fun K hK => ?_); go_simp; refine hK _ ?_; clear hK K)
      iterate 8 (refine walkW_do rfl (inKA.of HKD2.out) (fun K hK => ?_); go_simp; refine hK _ _ ?_; clear hK K)
      refine ⟨inKA.of HKD2.out, ?_⟩
      go_wp2_with fail
      go_ret
      exact ⟨by rw [HO.out]; rfl, HK2.out⟩
end Go.Proofs.YtmndjicaofciiaaGreatDoor
