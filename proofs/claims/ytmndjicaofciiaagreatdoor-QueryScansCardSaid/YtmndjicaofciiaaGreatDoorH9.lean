/-
  New, Apply, Get of package store; Value of package row.
-/
import Derived.Test.YtmndjicaofciiaaGreatDoorH8
namespace Go.Proofs.YtmndjicaofciiaaGreatDoor
open Go.RowKit Go.Shelf

def NewStP (w : World) (e : Ending) (w' : World) : Prop := ∃ z mb, e = .returned (ptr z) ∧ StA w' z mb [] 0 ∧ Keep (fun _ => False) w w' ∧ w.heap.size ≤ z ∧ w.heap.size ≤ mb
set_option maxRecDepth 100000 in
set_option maxHeartbeats 1000000 in
theorem newSt_any (w : World) : Calls Tryz.prog 14 #[] w (NewStP w) := by
  have HS := Lib.hid (StA.made (W := w) 63)
  have HK := Lib.hid (((Keep.refl (fun _ => False) w).alloc (.map #[] 0)).alloc (.cells #[.map (some w.heap.size), .int .i64 0] 63))
  have hmm := @run_makeMap Tryz.prog
  go_enter Tryz.func14, Tryz.ntmps14
  go_wp2_with fail
  go_ret
  exact ⟨_, _, rfl, HS.out, HK.out, by omega, by omega⟩
theorem val_cases (c : Int) : c = 0 ∨ c = 1 ∨ c = 2 ∨ c = 3 ∨ (c ≠ 0 ∧ c ≠ 1 ∧ c ≠ 2 ∧ c ≠ 3) := by omega
set_option maxRecDepth 100000 in
set_option maxHeartbeats 1000000 in
theorem value_any (r : R5) (c : Int) (w : World) : Calls Tryz.prog 10 #[rowV r, .int .i64 c] w fun e w' => e = .returned (.int .i64 (r.val c)) ∧ w' = w.alloc (.cells (rowC r).toArray 37) := by
  have HB := Lib.hid (BoxL.new w (rowC r) 37)
  have HE : Hid (w.alloc (.cells (rowC r).toArray 37) = w.alloc (.cells (rowC r).toArray 37)) := Lib.hid rfl
  have HV : Hid (r.val c = if c = 0 then r.ky else if c = 1 then r.a else if c = 2 then r.b else if c = 3 then r.c else 0) := Lib.hid rfl
  obtain ⟨r0, r1, r2, r3, r4⟩ := r
  rcases val_cases c with rfl | rfl | rfl | rfl | ⟨h0, h1, h2, h3⟩
  · have HX : Hid (R5.val ⟨r0, r1, r2, r3, r4⟩ 0 = r1) := Lib.hid (by rw [HV.out]; rfl)
    clear HV HE
    go_enter Tryz.func10, Tryz.ntmps10
    go_upto_region 1 with (fail)
    generalize hW : w.alloc (.cells #[.int .i64 r0, .int .i64 r1, .int .i64 r2, .int .i64 r3, .int .i64 r4] 37) = W at *
    generalize w.heap.size = z at *
    obtain ⟨c0, c1, c2, c3, c4⟩ := HB.out.row
    simp only [] at c0 c1 c2 c3 c4
    have HW := Lib.hid hW
    clear hW
    go_wp2_with fail
    go_ret
    exact ⟨by rw [HX.out]; rfl, HW.out.symm⟩
  · have HX : Hid (R5.val ⟨r0, r1, r2, r3, r4⟩ 1 = r2) := Lib.hid (by rw [HV.out]; rfl)
    clear HV HE
    go_enter Tryz.func10, Tryz.ntmps10
    go_upto_region 1 with (fail)
    generalize hW : w.alloc (.cells #[.int .i64 r0, .int .i64 r1, .int .i64 r2, .int .i64 r3, .int .i64 r4] 37) = W at *
    generalize w.heap.size = z at *
    obtain ⟨c0, c1, c2, c3, c4⟩ := HB.out.row
    simp only [] at c0 c1 c2 c3 c4
    have HW := Lib.hid hW
    clear hW
    go_wp2_with fail
    go_ret
    exact ⟨by rw [HX.out]; rfl, HW.out.symm⟩
  · have HX : Hid (R5.val ⟨r0, r1, r2, r3, r4⟩ 2 = r3) := Lib.hid (by rw [HV.out]; rfl)
    clear HV HE
    go_enter Tryz.func10, Tryz.ntmps10
    go_upto_region 1 with (fail)
    generalize hW : w.alloc (.cells #[.int .i64 r0, .int .i64 r1, .int .i64 r2, .int .i64 r3, .int .i64 r4] 37) = W at *
    generalize w.heap.size = z at *
    obtain ⟨c0, c1, c2, c3, c4⟩ := HB.out.row
    simp only [] at c0 c1 c2 c3 c4
    have HW := Lib.hid hW
    clear hW
    go_wp2_with fail
    go_ret
    exact ⟨by rw [HX.out]; rfl, HW.out.symm⟩
  · have HX : Hid (R5.val ⟨r0, r1, r2, r3, r4⟩ 3 = r4) := Lib.hid (by rw [HV.out]; rfl)
    clear HV HE
    go_enter Tryz.func10, Tryz.ntmps10
    go_upto_region 1 with (fail)
    generalize hW : w.alloc (.cells #[.int .i64 r0, .int .i64 r1, .int .i64 r2, .int .i64 r3, .int .i64 r4] 37) = W at *
    generalize w.heap.size = z at *
    obtain ⟨c0, c1, c2, c3, c4⟩ := HB.out.row
    simp only [] at c0 c1 c2 c3 c4
    have HW := Lib.hid hW
    clear hW
    go_wp2_with fail
    go_ret
    exact ⟨by rw [HX.out]; rfl, HW.out.symm⟩
  · have HX : Hid (R5.val ⟨r0, r1, r2, r3, r4⟩ c = 0) := Lib.hid (by rw [HV.out]; rw [if_neg h0, if_neg h1, if_neg h2, if_neg h3])
    clear HV HE
    go_enter Tryz.func10, Tryz.ntmps10
    go_upto_region 1 with (fail)
    generalize hW : w.alloc (.cells #[.int .i64 r0, .int .i64 r1, .int .i64 r2, .int .i64 r3, .int .i64 r4] 37) = W at *
    generalize w.heap.size = z at *
    obtain ⟨c0, c1, c2, c3, c4⟩ := HB.out.row
    simp only [] at c0 c1 c2 c3 c4
    have HW := Lib.hid hW
    clear hW
    go_wp2_with fail
    go_ret
    exact ⟨by rw [HX.out]; rfl, HW.out.symm⟩
set_option maxRecDepth 100000 in
set_option maxHeartbeats 2000000 in
theorem get_any (z mb : Nat) (l : List R5) (p t k : Int) (w : World) (h : StA w z mb l p) (ht : I64 t) (hk : I64 k) :
    Calls Tryz.prog 11 #[ptr z, .int .i64 t, .int .i64 k] w fun e w' => e = .returned (lookV (getR l t k)) ∧ Keep (fun _ => False) w w' := by
  obtain ⟨r, th, hrt⟩ : ∃ (r : R5) (th : Bool), lookV (getR l t k) = .tuple #[rowV r, .bool th] := by
    cases e : getR l t k with
    | none => exact ⟨⟨0, 0, 0, 0, 0⟩, false, rfl⟩
    | some r => exact ⟨r, true, rfl⟩
  have K0 := keep_cells w (rowC ⟨0, 0, 0, 0, 0⟩).toArray 37
  have HB0 := Lib.hid (BoxL.new w (rowC ⟨0, 0, 0, 0, 0⟩) 37)
  have HS0 := Lib.hid (h.kept K0)
  have HK0 := Lib.hid K0
  have HLK : Hid (∀ x : KA (fun _ => False) (w.alloc (.cells (rowC ⟨0, 0, 0, 0, 0⟩).toArray 37)), (Instr.lookup 59 (.map (some mb)) (idV t k) true).run Tryz.prog x.val = .ok (.tuple #[rowV r, .bool th]) x.val) := Lib.hid (fun x => by rw [← hrt]; exact (HS0.out.kept x.k).look ht hk)
  have HRT := Lib.hid hrt
  rw [hrt]
  clear h ht hk K0 hrt
  obtain ⟨ra, rb, rc, rd, re⟩ := r
  go_enter Tryz.func11, Tryz.ntmps11
  go_upto_region 3 with (fail)
  have e1 : w.alloc (.cells #[.int .i64 0, .int .i64 0, .int .i64 0, .int .i64 0, .int .i64 0] 37) = w.alloc (.cells (rowC ⟨0, 0, 0, 0, 0⟩).toArray 37) := rfl
  rw [e1]
  clear e1
  generalize w.alloc (.cells (rowC ⟨0, 0, 0, 0, 0⟩).toArray 37) = W0 at *
  generalize hzr : w.heap.size = zr at *
  have HZR := Lib.hid hzr
  clear hzr
  have r0 := HS0.out.box.cell 0 _ rfl
  have lk := HLK.out ⟨W0, Keep.refl _ _⟩
  simp only [] at lk
  go_upto_region 4 with (fail)
  clear r0 lk
  have HR7 := Lib.hid (BoxL.new W0 (rowC ⟨ra, rb, rc, rd, re⟩) 37)
  have HK57 := Lib.hid (keep_cells W0 (rowC ⟨ra, rb, rc, rd, re⟩).toArray 37)
  have e1 : W0.alloc (.cells #[.int .i64 ra, .int .i64 rb, .int .i64 rc, .int .i64 rd, .int .i64 re] 37) = W0.alloc (.cells (rowC ⟨ra, rb, rc, rd, re⟩).toArray 37) := rfl
  rw [e1]
  clear e1
  generalize W0.alloc (.cells (rowC ⟨ra, rb, rc, rd, re⟩).toArray 37) = W7 at *
  generalize W0.heap.size = zx at *
  have HB7 := Lib.hid (HB0.out.kept HK57.out)
  obtain ⟨v0, v1, v2, v3, v4⟩ := HR7.out.row
  simp only [] at v0 v1 v2 v3 v4
  obtain ⟨q0, q1, q2, q3, q4⟩ := HB7.out.row (r := ⟨0, 0, 0, 0, 0⟩)
  have fr := HB7.out.soft
  go_wp2_with fail
  clear q0 q1 q2 q3 q4 fr
  obtain ⟨W8, hW, hb, hk8⟩ := HB7.out.put5 ⟨ra, rb, rc, rd, re⟩
  simp only [] at hW
  rw [hW]
  obtain ⟨d0, d1, d2, d3, d4⟩ := hb.row
  refine bodyPost_ret (v := .tuple #[rowV ⟨ra, rb, rc, rd, re⟩, .bool th]) (by simp [results, Tryz.results11, go_sem, d0, d1, d2, d3, d4]) rfl ?_
  exact ⟨rfl, keep0 (HK0.out.trans HK57.out) (by have := HZR.out; omega) hk8⟩
set_option maxRecDepth 100000 in
set_option maxHeartbeats 4000000 in
theorem apply_any (z mb : Nat) (l : List R5) (p q : Int) (v : Value) (cs : List Chg) (w : World) (h : StA w z mb l p) (hc : Chs w v cs) (hp : 0 ≤ p ∧ p ≤ 10000) (hq : I64 q) (hl : l.length ≤ 1000000) (hd : ∀ b, v.ownBlock = some b → ¬ (b = z ∨ b = mb)) :
    Calls Tryz.prog 16 #[ptr z, recV q v] w fun e w' => e = .returned (.int .i64 (if fitsB l p q cs then 0 else 40)) ∧ StA w' z mb (if fitsB l p q cs then cs.foldl stepR l else l) (if fitsB l p q cs then q else p) ∧ Keep (fun i => i = z ∨ i = mb) w w' := by
  have K0 := keep_cells w #[.int .i64 q, v] 55
  have HB0 := Lib.hid (BoxL.new w [.int .i64 q, v] 55)
  have HS0 := Lib.hid (h.kept K0)
  have HC0 := Lib.hid (hc.kept K0)
  have HK0 := Lib.hid K0
  have HF := Lib.hid (fits_any z mb l p q v cs _ HS0.out HC0.out hp hq hl)
  have HDD := Lib.hid hd
  have HZN : Hid (¬ (w.heap.size = z ∨ w.heap.size = mb)) := Lib.hid (by have h1 := h.box.lt; have h2 := h.mp.lt; omega)
  generalize fitsB l p q cs = ok at *
  clear h hc hq K0 hd
  go_enter Tryz.func16, Tryz.ntmps16
  go_upto_region 1 with (fail)
  generalize w.alloc (.cells #[.int .i64 q, v] 55) = W0 at *
  generalize w.heap.size = zr at *
  have r0 := HB0.out.cell 0 _ rfl
  have r1 := HB0.out.cell 1 _ rfl
  go_wp2_with fail
  clear r0 r1
  with_reducible refine HF.out.mono ?_
  rintro e W1 ⟨rfl, k⟩
  have HK1 := Lib.hid (HK0.out.trans k)
  have HB1 := Lib.hid (HB0.out.kept k)
  have HS1 := Lib.hid (HS0.out.kept k)
  have HC1 := Lib.hid (HC0.out.kept k)
  clear k HB0 HS0 HC0 HK0 HF
  cases ok with
  | false =>
    go_wp2_with fail
    go_ret
    exact ⟨rfl, HS1.out, HK1.out.mono (fun _ h => h.elim)⟩
  | true =>
    obtain ⟨n, hn⟩ : ∃ n, cs.length = n := ⟨_, rfl⟩
    have HN := Lib.hid hn
    have hnb : n ≤ 1000000000 := by rw [← hn]; exact HC1.out.n
    obtain ⟨a, cp, bb, off, hv, hcp, ha, -⟩ := HC1.out.at_
    have r1 := HB1.out.cell 1 _ rfl
    rw [hn] at hv hcp ha
    have HAA := Lib.hid ha
    clear hn ha
    subst hv
    go_wp2_with fail
    clear r1
    go_loopg [21] n (fun gh v21 wr => ∃ (k : Nat), gh + k = n ∧ v21 = .int .i64 k ∧ StA wr z mb ((cs.take k).foldl stepR l) p ∧ Keep (fun i => i = z ∨ i = mb) W1 wr)
    case atStart => exact ⟨0, by omega, rfl, HS1.out, Keep.refl _ _⟩
    case round =>
      obtain ⟨k, hk, rfl, hs, hkw⟩ := hrel
      have HS := Lib.hid hs
      have HKW := Lib.hid hkw
      clear hs hkw
      by_cases hlt : k < n
      · obtain ⟨ch, hch⟩ : ∃ x, cs[k]? = some x := ⟨_, List.getElem?_eq_getElem (by have := HN.out; omega)⟩
        obtain ⟨b, off, hab, hcell⟩ := (HC1.out.keep HKW.out HDD.out).at_slice hch
        subst hab
        have HTK : Hid ((cs.take (k + 1)).foldl stepR l = stepR ((cs.take k).foldl stepR l) ch) := Lib.hid (by rw [List.take_add_one, hch, List.foldl_append]; rfl)
        have HFI := Lib.hid (HC1.out.fine ch (List.mem_of_getElem? hch))
        have HB5 := Lib.hid (BoxL.new wr (chC ch) 51)
        have HS5 := Lib.hid (HS.out.kept (keep_cells wr (chC ch).toArray 51))
        have HK5 := Lib.hid (HKW.out.alloc (.cells (chC ch).toArray 51))
        have HAF := Lib.hid (after_any ch)
        clear hch
        have d0 := hcell 0 _ rfl
        have d1 := hcell 1 _ rfl
        have d2 := hcell 2 _ rfl
        have d3 := hcell 3 _ rfl
        have d4 := hcell 4 _ rfl
        have d5 := hcell 5 _ rfl
        have d6 := hcell 6 _ rfl
        have d7 := hcell 7 _ rfl
        have d8 := hcell 8 _ rfl
        have d9 := hcell 9 _ rfl
        rw [Nat.add_zero] at d0
        clear hcell
        have hkz : (k : Int) < (n : Int) := by omega
        have hk0 : (0 : Int) ≤ (k : Int) := by omega
        go_upto_region 8 with (fail)
        clear d0 d1 d2 d3 d4 d5 d6 d7 d8 d9
        have e1 : wr.alloc (.cells #[.int .i64 ch.tb, .int .i64 ch.ky, .bool ch.had, .int .i64 ch.o0, .int .i64 ch.o1, .int .i64 ch.o2, .bool ch.has, .int .i64 ch.n0, .int .i64 ch.n1, .int .i64 ch.n2] 51) = wr.alloc (.cells (chC ch).toArray 51) := rfl
        rw [e1]
        clear e1
        have HNE : Hid (mb ≠ wr.heap.size ∧ z ≠ wr.heap.size) := Lib.hid (by have h1 := HS.out.mp.lt; have h2 := HS.out.box.lt; omega)
        generalize wr.alloc (.cells (chC ch).toArray 51) = W5 at *
        generalize wr.heap.size = zc at *
        obtain ⟨c0, c1, -, -, -, -, -, -, -, -⟩ := HB5.out.chg
        go_upto_region 9 with (fail)
        clear c0 c1
        have HI6 := Lib.hid (BoxL.new W5 [.int .i64 ch.tb, .int .i64 ch.ky] 65)
        have HB6 := Lib.hid (HB5.out.kept (keep_cells W5 #[.int .i64 ch.tb, .int .i64 ch.ky] 65))
        have HS6 := Lib.hid (HS5.out.kept (keep_cells W5 #[.int .i64 ch.tb, .int .i64 ch.ky] 65))
        have HK6 := Lib.hid (HK5.out.alloc (.cells #[.int .i64 ch.tb, .int .i64 ch.ky] 65))
        generalize W5.alloc (.cells #[.int .i64 ch.tb, .int .i64 ch.ky] 65) = W6 at *
        generalize W5.heap.size = zi at *
        obtain ⟨c0, c1, c2, c3, c4, c5, c6, c7, c8, c9⟩ := HB6.out.chg
        go_wp2_with fail
        clear c0 c1 c2 c3 c4 c5 c6 c7 c8 c9
        with_reducible refine (HAF.out W6).mono ?_
        rintro e W7 ⟨rfl, k7⟩
        have HI7 := Lib.hid (HI6.out.kept k7)
        have HS7 := Lib.hid (HS6.out.kept k7)
        have HK7 := Lib.hid (HK6.out.trans (k7.mono (fun _ h => h.elim)))
        clear k7 HB6 HB5 HAF
        cases hhas : ch.has with
        | true =>
          have HH := Lib.hid hhas
          have HR : Hid (halfR ch.new true = ch.new) := Lib.hid rfl
          rw [HR.out]
          obtain ⟨tb, ky, had, o0, o1, o2, has, n0, n1, n2⟩ := ch
          simp only [] at hhas
          clear hhas
          have HX : Hid (Chg.new ⟨tb, ky, had, o0, o1, o2, has, n0, n1, n2⟩ = ⟨tb, ky, n0, n1, n2⟩) := Lib.hid rfl
          rw [HX.out]
          have HR8 := Lib.hid (BoxL.new W7 (rowC ⟨tb, ky, n0, n1, n2⟩) 37)
          have HI8 := Lib.hid (HI7.out.kept (keep_cells W7 (rowC ⟨tb, ky, n0, n1, n2⟩).toArray 37))
          have HS8 := Lib.hid (HS7.out.kept (keep_cells W7 (rowC ⟨tb, ky, n0, n1, n2⟩).toArray 37))
          have HK8 := Lib.hid (HK7.out.alloc (.cells (rowC ⟨tb, ky, n0, n1, n2⟩).toArray 37))
          go_upto_region 11 with (fail)
          have e1 : W7.alloc (.cells #[.int .i64 tb, .int .i64 ky, .int .i64 n0, .int .i64 n1, .int .i64 n2] 37) = W7.alloc (.cells (rowC ⟨tb, ky, n0, n1, n2⟩).toArray 37) := rfl
          rw [e1]
          clear e1
          generalize W7.alloc (.cells (rowC ⟨tb, ky, n0, n1, n2⟩).toArray 37) = W8 at *
          generalize W7.heap.size = zx at *
          have e2 : zx = zx := rfl
          clear e2
          have hs8 := HS8.out.drew
          obtain ⟨es, ck, hup, hst⟩ := hs8.update (c := ⟨tb, ky, had, o0, o1, o2, has, n0, n1, n2⟩) HH.out HFI.out
          have HST := Lib.hid hst
          have HPK : Hid (Keep (fun i => i = z ∨ i = mb) W8 (W8.drew.putObj mb (.map es ck))) := Lib.hid ((Keep.refl (fun i => i = z ∨ i = mb) W8).drew.putObj _ (.inl (.inr rfl)))
          have x0 : W8.drew.cell? ⟨z, 0, none⟩ = some (.map (some mb)) := hs8.box.cell 0 _ rfl
          have x1 : W8.drew.cell? ⟨zi, 0, none⟩ = some (.int .i64 tb) := HI8.out.drew.cell 0 _ rfl
          have x2 : W8.drew.cell? ⟨zi, 1, none⟩ = some (.int .i64 ky) := HI8.out.drew.cell 1 _ rfl
          have x3 : W8.drew.cell? ⟨zx, 0, none⟩ = some (.int .i64 tb) := HR8.out.drew.cell 0 _ rfl
          have x4 : W8.drew.cell? ⟨zx, 1, none⟩ = some (.int .i64 ky) := HR8.out.drew.cell 1 _ rfl
          have x5 : W8.drew.cell? ⟨zx, 2, none⟩ = some (.int .i64 n0) := HR8.out.drew.cell 2 _ rfl
          have x6 : W8.drew.cell? ⟨zx, 3, none⟩ = some (.int .i64 n1) := HR8.out.drew.cell 3 _ rfl
          have x7 : W8.drew.cell? ⟨zx, 4, none⟩ = some (.int .i64 n2) := HR8.out.drew.cell 4 _ rfl
          have hup2 : (Instr.mapUpdate 59 (.map (some mb)) (idV tb ky) (rowV ⟨tb, ky, n0, n1, n2⟩)).run Tryz.prog W8.drew = .ok () (W8.drew.putObj mb (.map es ck)) := hup
          clear hup hst hs8
          refine wp_region_still_tail 7 (by kernel_rfl) (by kernel_rfl) ?_
          simp only [List.take_succ_cons, List.take_zero, List.drop_succ_cons, List.drop_zero]
          change wpStill _ _ W8.drew _ _ _
          iterate 7 still_step
          refine wpStill_nil ?_
          go_wp2_with fail
          clear x0 x1 x2 x3 x4 x5 x6 x7 hup2
          go_roundg (gk - 1)
          case rel => exact ⟨k + 1, by omega, by go_num, by rw [HTK.out]; exact HST.out, HK8.out.trans HPK.out⟩
          case measure => omega
        | false =>
          have HR : Hid (halfR ch.new false = ⟨0, 0, 0, 0, 0⟩) := Lib.hid rfl
          have HH := Lib.hid hhas
          rw [HR.out]
          obtain ⟨tb, ky, had, o0, o1, o2, has, n0, n1, n2⟩ := ch
          simp only [] at hhas
          clear hhas
          have HI8 := Lib.hid (HI7.out.kept (keep_cells W7 (rowC ⟨0, 0, 0, 0, 0⟩).toArray 37))
          have HS8 := Lib.hid (HS7.out.kept (keep_cells W7 (rowC ⟨0, 0, 0, 0, 0⟩).toArray 37))
          have HK8 := Lib.hid (HK7.out.alloc (.cells (rowC ⟨0, 0, 0, 0, 0⟩).toArray 37))
          go_upto_region 12 with (fail)
          have e1 : W7.alloc (.cells #[.int .i64 0, .int .i64 0, .int .i64 0, .int .i64 0, .int .i64 0] 37) = W7.alloc (.cells (rowC ⟨0, 0, 0, 0, 0⟩).toArray 37) := rfl
          rw [e1]
          clear e1
          generalize W7.alloc (.cells (rowC ⟨0, 0, 0, 0, 0⟩).toArray 37) = W8 at *
          generalize W7.heap.size = zx at *
          have hs8 := HS8.out.drew
          obtain ⟨es, ck, hup, hst⟩ := hs8.delete (c := ⟨tb, ky, had, o0, o1, o2, has, n0, n1, n2⟩) HH.out HFI.out 0
          have HST := Lib.hid hst
          have HPK : Hid (Keep (fun i => i = z ∨ i = mb) W8 (W8.drew.putObj mb (.map es ck))) := Lib.hid ((Keep.refl (fun i => i = z ∨ i = mb) W8).drew.putObj _ (.inl (.inr rfl)))
          have x0 : W8.drew.cell? ⟨z, 0, none⟩ = some (.map (some mb)) := hs8.box.cell 0 _ rfl
          have x1 : W8.drew.cell? ⟨zi, 0, none⟩ = some (.int .i64 tb) := HI8.out.drew.cell 0 _ rfl
          have x2 : W8.drew.cell? ⟨zi, 1, none⟩ = some (.int .i64 ky) := HI8.out.drew.cell 1 _ rfl
          have hup2 : (Builtin.delete_ #[59, 65] 0 #[.map (some mb), idV tb ky]).run Tryz.prog W8.drew = .ok (.tuple #[]) (W8.drew.putObj mb (.map es ck)) := hup
          clear hup hst hs8
          refine wp_region_still_tail 6 (by kernel_rfl) (by kernel_rfl) ?_
          simp only [List.take_succ_cons, List.take_zero, List.drop_succ_cons, List.drop_zero]
          change wpStill _ _ W8.drew _ _ _
          iterate 6 still_step
          refine wpStill_nil ?_
          go_wp2_with fail
          clear x0 x1 x2 hup2
          go_roundg (gk - 1)
          case rel => exact ⟨k + 1, by omega, by go_num, by rw [HTK.out]; exact HST.out, HK8.out.trans HPK.out⟩
          case measure => omega
      · have hkn : ¬ (k : Int) < (n : Int) := by omega
        have HS : Hid (StA wr z mb (cs.foldl stepR l) p) := Lib.hid (by have h1 := HS.out; rwa [List.take_of_length_le (by have := HN.out; omega)] at h1)
        have x0 := (HB1.out.keep (A := fun i => i = z ∨ i = mb) HKW.out HZN.out).cell 0 _ rfl
        have x1 := HS.out.box.cell 1 _ rfl
        have fr := HS.out.box.soft
        go_wp2_with fail
        go_ret
        exact ⟨rfl, HS.out.setPos q, (HK1.out.mono (fun _ h => h.elim)).trans (HKW.out.setCell _ (.inl (.inl rfl)))⟩
end Go.Proofs.YtmndjicaofciiaaGreatDoor
