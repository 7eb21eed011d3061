/-
  ReshardKeys: the walk.
-/
import Derived.Test.YtplkmbfeeegaiaaDoorM5
namespace Go.Proofs.YtplkmbfeeegaiaaDoor
open Go.RowKit Go.Shelf

set_option maxRecDepth 100000 in
set_option maxHeartbeats 8000000 in
theorem keys13_law (vx : Value) (xs : List Int) (vy : Value) (ys : List Int) (key : ByteArray) (w : World) (hx : Its w vx xs) (hy : Its w vy ys) (hkey : key.size ≤ maxLen) (hT : Tab w) : Calls Tryd.prog 12 #[vx, vy, .string key] w fun e w' => e = .returned (.bool true) ∧ Keep (fun _ => False) w w' := by
  have HX := Lib.hid hx
  have HY := Lib.hid hy
  have HT := Lib.hid hT
  have HVX := Lib.hid (mem13_vl xs)
  have HVY := Lib.hid (mem13_vl ys)
  unfold maxLen at hkey
  clear hx hy hT
  go_enter Tryd.func12, Tryd.ntmps12
  go_wp2_with fail
  with_reducible refine (sane13_any w HT.out).mono ?_
  rintro e W1 ⟨rfl, k1⟩
  have KV := Lib.hid k1
  clear k1
  go_wp2_with fail
  have HKS0 : Hid ((key.extract 0 (min (key.size : Int) 100).toNat).size ≤ 100) := Lib.hid (by rw [ByteArray.size_extract]; omega)
  generalize key.extract 0 (min (key.size : Int) 100).toNat = ky at *
  with_reducible refine (members_mbs _ xs (HX.out.kept KV.out)).mono ?_
  rintro e W2 ⟨a2, c2, rfl, hm, k2⟩
  replace KV := Lib.hid (KV.out.trans k2)
  have HM := Lib.hid hm
  clear hm k2
  generalize hlx : mem13 xs = lx at *
  clear hlx
  obtain ⟨nx, hnx⟩ : ∃ n, lx.length = n := ⟨_, rfl⟩
  have HOX := Lib.hid (ok_new PN QS HVX.out.1 (ep := 1) (by decide))
  have HNX := Lib.hid hnx
  rw [hnx] at HM ⊢
  go_wp2_with fail
  with_reducible refine (good_new _ lx HM.out HVX.out.1 (HT.out.kept KV.out)).mono ?_
  rintro e W3 ⟨am, cm, ao, co, rfl, hr, k⟩
  rw [hnx] at hr ⊢
  clear hnx HM
  generalize ownersL PN QS lx = ox at *
  have ka : Keep (fun _ => False) W3 (W3.alloc (.cells #[.int .i64 1, .slice am nx cm, .slice ao 64 co] 31)) := (Keep.refl _ W3).alloc _
  have HB8 := Lib.hid (Box3.new W3 (.int .i64 1) (.slice am nx cm) (.slice ao 64 co) 31)
  have HR8 := Lib.hid (hr.kept ka)
  replace KV := Lib.hid (KV.out.trans (k.trans ka))
  clear hr k ka
  go_upto_region 4 with (fail)
  generalize W3.alloc (.cells #[.int .i64 1, .slice am nx cm, .slice ao 64 co] 31) = V3 at *
  generalize W3.heap.size = z8 at *
  go_upto_region 6 with (fail)
  generalize hly : mem13 ys = ly at *
  have HLY := Lib.hid hly
  clear hly
  obtain ⟨ny, hny⟩ : ∃ n, ly.length = n := ⟨_, rfl⟩
  have HNY := Lib.hid hny
  clear hny
  have HOY : Hid (okRing 2 ly (changeL PN QS ly ox)) := Lib.hid (ok_change PN QS HOX.out HVY.out.1 (by decide))
  have r0 : ∀ p : KA (fun _ => False) V3, p.val.cell? ⟨z8, 0, none⟩ = some (.int .i64 1) := fun p => (HB8.out.kept p.k).1
  have r1 : ∀ p : KA (fun _ => False) V3, p.val.cell? ⟨z8, 1, none⟩ = some (.slice am nx cm) := fun p => (HB8.out.kept p.k).2.1
  have r2 : ∀ p : KA (fun _ => False) V3, p.val.cell? ⟨z8, 2, none⟩ = some (.slice ao 64 co) := fun p => (HB8.out.kept p.k).2.2.1
  refine wp_region_free3 [0, 1] [⟨2, 32, []⟩, ⟨3, 33, [32]⟩, ⟨4, 29, [33]⟩, ⟨7, 10, []⟩, ⟨5, 34, [29]⟩, ⟨6, 35, [29]⟩] ⟨6, 35, [29]⟩ (by simp) [(false, 8), (false, 9)] (inKA (fun _ => False) V3) (nextS 32 33 29 10 34 35 V3.heap.size 2 ly (changeL PN QS ly ox) ny) (Keep (fun _ => False)) (by kernel_rfl) (by kernel_rfl) (inKA.of (Keep.refl _ V3).drew) nextS_keep (fun w w' hw hk => by obtain ⟨p, rfl⟩ := hw; exact inKA.of (p.k.trans hk)) ?_
  iterate 2 (refine headW_step rfl (fun K hK => ?_); go_simp; refine hK _ ?_; clear hK K)
  clear r0 r1 r2
  refine ⟨?_, ?_, ?_, ?_⟩
  · intro h hh
    simp only [List.mem_cons, List.not_mem_nil, or_false] at hh
    rcases hh with rfl | rfl | rfl | rfl | rfl | rfl <;> simp
  · refine freeW_step rfl (fun vs W hC hS K hK => ?_) (freeW_step rfl (fun vs W hC hS K hK => ?_) (freeW_step rfl (fun vs W hC hS K hK => ?_) (freeW_step rfl (fun vs W hC hS K hK => ?_) (freeW_step rfl (fun vs W hC hS K hK => ?_) (freeW_step rfl (fun vs W hC hS K hK => ?_) trivial)))))
    · obtain ⟨p, rfl⟩ := hC
      simp only [putL, List.foldl]
      have HMB := Lib.hid (members_mbs _ ys (HY.out.kept (KV.out.trans p.k)))
      go_simp
      refine HMB.out.mono ?_
      rintro e W2 ⟨a, c, rfl, hm, kk⟩
      rw [HLY.out, HNY.out] at hm ⊢
      exact hK _ _ ⟨fun _ => ⟨a, c, rfl, hm⟩, fun e => absurd e (by decide), fun e => absurd e (by decide), fun e => absurd e (by decide), fun e => absurd e (by decide)⟩ kk
    · obtain ⟨p, rfl⟩ := hC
      obtain ⟨a, c, e2, hm⟩ := (hS 32 (by simp)).1 rfl
      simp only [putL, List.foldl]
      generalize vs 32 = v32 at *
      subst e2
      have hch := next_change _ _ _ lx ly ox (HR8.out.kept p.k) HOX.out (by decide) hm HVY.out.1 (HT.out.kept (KV.out.trans p.k))
      rw [show (1 : Int) + 1 = 2 from rfl] at hch
      have HCH := Lib.hid hch
      clear hch
      go_simp
      refine HCH.out.mono ?_
      rintro e W2 ⟨v, rfl, hnv, kk⟩
      rw [HNY.out] at hnv
      have hsz := p.k.size
      exact hK _ _ ⟨fun e => absurd e (by decide), fun _ => hnv.lo hsz, fun e => absurd e (by decide), fun e => absurd e (by decide), fun e => absurd e (by decide)⟩ kk
    · have hnv := (hS 33 (by simp)).2.1 (.inl rfl)
      simp only [putL, List.foldl]
      generalize vs 33 = v33 at *
      go_simp
      exact hK _ _ ⟨fun e => absurd e (by decide), fun _ => hnv, fun e => absurd e (by decide), fun e => absurd e (by decide), fun e => absurd e (by decide)⟩ (Keep.refl _ W)
    · obtain ⟨p, rfl⟩ := hC
      simp only [putL, List.foldl]
      have hsz := p.k.size
      go_simp
      exact hK _ _ ⟨fun e => absurd e (by decide), fun e => absurd e (by decide), fun _ => ⟨p.val.heap.size, rfl, hsz, Box3.new _ _ _ _ _, ⟨_, World.alloc_heap_new _ _⟩⟩, fun e => absurd e (by decide), fun e => absurd e (by decide)⟩ ((Keep.refl _ p.val).alloc _)
    · obtain ⟨a, c, b, d, e1, h1, h2⟩ := (hS 29 (by simp)).2.1 (.inr rfl)
      simp only [putL, List.foldl]
      generalize vs 29 = v29 at *
      subst e1
      go_simp
      exact hK _ _ ⟨fun e => absurd e (by decide), fun e => absurd e (by decide), fun e => absurd e (by decide), fun _ => ⟨a, c, b, d, rfl, h1, h2⟩, fun e => absurd e (by decide)⟩ (Keep.refl _ W)
    · obtain ⟨a, c, b, d, e1, h1, h2⟩ := (hS 29 (by simp)).2.1 (.inr rfl)
      simp only [putL, List.foldl]
      generalize vs 29 = v29 at *
      subst e1
      go_simp
      exact hK _ _ ⟨fun e => absurd e (by decide), fun e => absurd e (by decide), fun e => absurd e (by decide), fun e => absurd e (by decide), fun _ => rfl⟩ (Keep.refl _ W)
  · refine ⟨_, rfl, rfl, fun vs W hC hS K hK => ?_⟩
    obtain ⟨a, c, b, d, e1, -⟩ := (hS ⟨4, 29, [33]⟩ (by simp) (by decide)).2.1 (.inr rfl)
    simp only [] at e1
    simp only [List.filter, List.map, putL, List.foldl, Nat.reduceBEq, Bool.not_false, Bool.not_true]
    generalize vs 29 = v29 at *
    subst e1
    go_simp
    exact hK _ ⟨fun e => absurd e (by decide), fun e => absurd e (by decide), fun e => absurd e (by decide), fun e => absurd e (by decide), fun _ => rfl⟩
  · intro vs W hC hS
    obtain ⟨p, rfl⟩ := hC
    obtain ⟨a32, c32, e1, -⟩ := (hS ⟨2, 32, []⟩ (by simp)).1 rfl
    obtain ⟨a33, c33, b33, d33, e2, -⟩ := (hS ⟨3, 33, [32]⟩ (by simp)).2.1 (.inl rfl)
    obtain ⟨a29, c29, b29, d29, e3, -⟩ := (hS ⟨4, 29, [33]⟩ (by simp)).2.1 (.inr rfl)
    obtain ⟨z10, e4, hz9, hb9, ht9⟩ := (hS ⟨7, 10, []⟩ (by simp)).2.2.1 rfl
    obtain ⟨am2, cm2, ao2, co2, e5, hm9, ho9⟩ := (hS ⟨5, 34, [29]⟩ (by simp)).2.2.2.1 rfl
    have e6 := (hS ⟨6, 35, [29]⟩ (by simp)).2.2.2.2 rfl
    simp only [] at e1 e2 e3 e4 e5 e6
    simp only [List.map, putL, List.foldl]
    generalize vs 32 = v32 at *
    generalize vs 33 = v33 at *
    generalize vs 29 = v29 at *
    generalize vs 10 = v10 at *
    generalize vs 34 = v34 at *
    generalize vs 35 = v35 at *
    subst e1 e2 e3 e4 e5 e6
    have HGMZ : Hid (∀ b, (Value.slice am2 ny cm2).ownBlock = some b → b ≠ z10) := Lib.hid (fun b hb => own_ne hm9 ht9 (by decide) hb)
    have HGOZ : Hid (∀ b, (Value.slice ao2 64 co2).ownBlock = some b → b ≠ z10) := Lib.hid (fun b hb => own_ne ho9 ht9 (by decide) hb)
    have HKP := Lib.hid p.k
    have HBP := Lib.hid hb9
    have HRP : Hid (Rng p.val (.agg #[.int .i64 2, .slice am2 ny cm2, .slice ao2 64 co2]) 2 ly (changeL PN QS ly ox)) := Lib.hid (next_rng hm9 ho9 HNY.out HOY.out)
    have HZ9 : Hid (V3.heap.size ≤ z10) := Lib.hid hz9
    have HGB : Hid ((∀ b, (Value.slice am2 ny cm2).ownBlock = some b → V3.heap.size ≤ b) ∧ ∀ b, (Value.slice ao2 64 co2).ownBlock = some b → V3.heap.size ≤ b) := Lib.hid ⟨fun b hb => (hm9.lt b hb).1, fun b hb => (ho9.lt b hb).1⟩
    clear hS hz9 hb9 ht9 hm9 ho9
    generalize p.val = V at *
    obtain ⟨y0, y1, y2, yf⟩ := HBP.out
    refine walkW_do rfl (inKA.of HKP.out) (fun K hK => ?_)
    go_simp
    refine hK _ _ ?_; clear hK K
    clear y0 y1 y2 yf
    have kq : Keep (fun j => j = z10) V (((V.setCell ⟨z10, 0, none⟩ (.int .i64 2)).setCell ⟨z10, 1, none⟩ (.slice am2 ny cm2)).setCell ⟨z10, 2, none⟩ (.slice ao2 64 co2)) := (((Keep.refl (fun j => j = z10) V).setCell (p := ⟨z10, 0, none⟩) _ (.inl rfl)).setCell (p := ⟨z10, 1, none⟩) _ (.inl rfl)).setCell (p := ⟨z10, 2, none⟩) _ (.inl rfl)
    have HBQ := Lib.hid (((HBP.out.set0 (.int .i64 2)).set1 (.slice am2 ny cm2)).set2 (.slice ao2 64 co2))
    have HRQ := Lib.hid (HRP.out.keep kq (fun b hb e => HGMZ.out b hb e) (fun b hb e => HGOZ.out b hb e))
    have HKQ := Lib.hid (HKP.out.trans' kq (fun j e => .inr (by have h5 : j = z10 := e; have := HZ9.out; omega)))
    clear kq HBP HRP HKP HGMZ HGOZ
    generalize ((V.setCell ⟨z10, 0, none⟩ (.int .i64 2)).setCell ⟨z10, 1, none⟩ (.slice am2 ny cm2)).setCell ⟨z10, 2, none⟩ (.slice ao2 64 co2) = V6 at *
    refine walkW_do rfl (inKA.of HKQ.out) (fun K hK => ?_)
    go_simp
    refine hK _ _ ?_; clear hK K
    refine ⟨inKA.of HKQ.out, ?_⟩
    replace KV := Lib.hid (KV.out.trans HKQ.out)
    have HB8' := Lib.hid (HB8.out.kept HKQ.out)
    have HR8' := Lib.hid (HR8.out.kept HKQ.out)
    clear HB8 HR8 HKQ
    generalize changeL PN QS ly ox = oy at *
    have HLX : Hid (ox.length = 64) := Lib.hid HOX.out.2.2.2.1
    have HLYO : Hid (oy.length = 64) := Lib.hid HOY.out.2.2.2.1
    go_upto_region 9 with (fail)
    obtain ⟨x0, x1, x2, -⟩ := HB8'.out
    obtain ⟨y0, y1, y2, -⟩ := HBQ.out
    go_wp2_with fail
    clear x0 x1 x2 y0 y1 y2
    with_reducible refine (moves_any _ _ _ _ _ _ _ _ V6 HR8'.out HRQ.out HLX.out HLYO.out).mono ?_
    rintro e W8 ⟨aq, cq, rfl, hown, k⟩
    have hbd := movesK_bd (okRing_nodes HOX.out) (okRing_nodes HOY.out)
    have hmv := mvs_owns hown (by have := movesK_len ox oy 64; omega) hbd
    have hq := movesK_len ox oy 64
    have hsl0 := slotOf_lt ky
    have HSAY : Hid (∀ m ∈ movesK ox oy 64, m.slot = (slotOf ky : Nat) → m.frm = ox.getD (slotOf ky) 0 ∧ m.to_ = oy.getD (slotOf ky) 0) := Lib.hid (fun m hm e => moves_says hm e)
    have HNONE : Hid ((∀ m ∈ movesK ox oy 64, m.slot ≠ (slotOf ky : Nat)) → oy.getD (slotOf ky) 0 = ox.getD (slotOf ky) 0) := Lib.hid (fun h => by
      by_cases e : oy.getD (slotOf ky) 0 = ox.getD (slotOf ky) 0
      · exact e
      · obtain ⟨m, hm, e2⟩ := (moves_at (a := ox) (b := oy) (k := 64) hsl0).2 e
        exact absurd e2 (h m hm))
    have HSLOT : Hid (∀ W, Tab W → Calls Tryd.prog 34 #[.string ky] W fun e w' => e = .returned (.int .i64 (slotOf ky : Nat)) ∧ W = w') := Lib.hid (fun W h => slot_any ky (by have := HKS0.out; omega) W h)
    have HOWX : Hid (∀ W, Keep (fun _ => False) W8 W → Calls Tryd.prog 27 #[.agg #[.int .i64 1, .slice am nx cm, .slice ao 64 co], .string ky] W fun e w' => e = .returned (.int .i64 (ox.getD (slotOf ky) 0)) ∧ Keep (fun _ => False) W w') := Lib.hid (fun W kk => by
      have h := owner_any _ 1 lx ox W (HR8'.out.kept (k.trans kk)) ky (by have := HKS0.out; omega) (HT.out.kept (KV.out.trans (k.trans kk)))
      rwa [show ownerOf ox ky = ox.getD (slotOf ky) 0 by unfold ownerOf; rw [if_pos HLX.out]] at h)
    have HOWY : Hid (∀ W, Keep (fun _ => False) W8 W → Calls Tryd.prog 27 #[.agg #[.int .i64 2, .slice am2 ny cm2, .slice ao2 64 co2], .string ky] W fun e w' => e = .returned (.int .i64 (oy.getD (slotOf ky) 0)) ∧ Keep (fun _ => False) W w') := Lib.hid (fun W kk => by
      have h := owner_any _ 2 ly oy W (HRQ.out.kept (k.trans kk)) ky (by have := HKS0.out; omega) (HT.out.kept (KV.out.trans (k.trans kk)))
      rwa [show ownerOf oy ky = oy.getD (slotOf ky) 0 by unfold ownerOf; rw [if_pos HLYO.out]] at h)
    generalize movesK ox oy 64 = ms at *
    obtain ⟨q, hqe⟩ : ∃ n, ms.length = n := ⟨_, rfl⟩
    have HQ := Lib.hid hqe
    rw [hqe] at hmv hq ⊢
    have HCELL : Hid (0 < q → ∃ b off, aq = some ⟨b, off, none⟩ ∧ q ≤ cq ∧ ∀ (j : Nat) (m : Mv), ms[j]? = some m → W8.cell? ⟨b, off + j * 3, none⟩ = some (.int .i64 m.slot) ∧ W8.cell? ⟨b, off + j * 3 + 1, none⟩ = some (.int .i64 m.frm) ∧ W8.cell? ⟨b, off + j * 3 + 2, none⟩ = some (.int .i64 m.to_)) := Lib.hid (fun h0 => by
      obtain ⟨-, -, a', c', b, off, e, hc, ha, hcell⟩ := hmv
      obtain ⟨e1, e2, e3⟩ := Value.slice.inj e
      subst e3
      rw [List.length_map] at hc ha
      refine ⟨b, off, e1.trans (ha (by omega)), by omega, fun j m hj => ?_⟩
      exact hcell j (mvMb m) (by rw [List.getElem?_map, hj]; rfl))
    have HB8 := Lib.hid (HB8'.out.kept k)
    have HB10 := Lib.hid (HBQ.out.kept k)
    have HTT : Hid (∀ W, Keep (fun _ => False) W8 W → Tab W) := Lib.hid (fun W kk => HT.out.kept (KV.out.trans (k.trans kk)))
    replace KV := Lib.hid (KV.out.trans k)
    clear hbd hmv hqe hown k HB8' HR8' HBQ HRQ
    generalize slotOf ky = sl at *
    generalize ox.getD sl 0 = u at *
    generalize oy.getD sl 0 = v at *
    obtain ⟨x0, x1, x2, -⟩ := HB8.out
    go_wp2_with fail
    clear x0 x1 x2
    with_reducible refine (HOWX.out _ (Keep.refl _ _)).mono ?_
    rintro e W9 ⟨rfl, k9⟩
    have HK9 := Lib.hid k9
    clear k9
    go_wp2_with fail
    go_loopg [13, 14] q (fun gh v13 v14 wr => ∃ i : Nat, gh + i = q ∧ v14 = .int .i64 i ∧ v13 = .int .i64 u ∧ (∀ m ∈ ms.take i, m.slot ≠ sl) ∧ Keep (fun _ => False) W8 wr)
    case atStart => exact ⟨0, by omega, rfl, rfl, fun m hm => by simp at hm, HK9.out⟩
    case round =>
      obtain ⟨i, hi, rfl, rfl, hno, hkeep⟩ := hrel
      have HK := Lib.hid hkeep
      have HNO := Lib.hid hno
      clear hkeep hno
      by_cases hil : i < q
      · obtain ⟨m, hm⟩ : ∃ m, ms[i]? = some m := ⟨_, List.getElem?_eq_getElem (by rw [HQ.out]; exact hil)⟩
        obtain ⟨b, off, rfl, hqc, hcell⟩ := HCELL.out (by omega)
        obtain ⟨c0, c1, c2⟩ := hcell i m hm
        have HC0 := Lib.hid c0
        have HC1 := Lib.hid c1
        have HC2 := Lib.hid c2
        have HT0 : Hid (∀ n, Tab (wr.drewN n)) := Lib.hid (fun n => HTT.out _ (HK.out.drewN n))
        have HM := Lib.hid hm
        have hiz : (i : Int) < (q : Int) := by omega
        have hi0 : (0 : Int) ≤ (i : Int) := by omega
        clear hm c0 c1 c2 hcell
        have c0 := HK.out.cell HC0.out (fun h => h)
        by_cases hms : m.slot = (sl : Int)
        · have hsay := HSAY.out m (List.mem_of_getElem? HM.out) hms
          obtain ⟨m0, m1, m2⟩ := m
          simp only [] at c0 HC1 HC2 hms hsay
          obtain ⟨rfl, rfl⟩ := hsay
          subst hms
          have hb : ((sl : Int) == (sl : Int)) = true := by simp
          go_upto_region 14 with (fail)
          go_quiet ((go_at_call 34; exact quiet_same (HSLOT.out _ (HT0.out _))))
          have HKN := Lib.hid (HK.out.drewN nq)
          clear c0 hb HT0
          generalize wr.drewN nq = Y at *
          have d1 := HKN.out.cell HC1.out (fun h => h)
          have d2 := HKN.out.cell HC2.out (fun h => h)
          have hb1 : (m1 != m1) = false := by simp
          obtain ⟨y0, y1, y2, -⟩ := HB10.out.kept HKN.out
          go_wp2_with fail
          clear d1 d2 y0 y1 y2 hb1
          with_reducible refine (HOWY.out _ HKN.out).mono ?_
          rintro e Y2 ⟨rfl, kx⟩
          have HKE := Lib.hid (KV.out.trans (HKN.out.trans kx))
          have hb2 : (m2 == m2) = true := by simp
          clear kx
          go_wp2_with fail
          go_ret
          exact ⟨rfl, HKE.out⟩
        · have hb : (m.slot == (sl : Int)) = false := by simpa using hms
          have HNO2 : Hid (∀ x ∈ ms.take (i + 1), x.slot ≠ sl) := Lib.hid (by
            intro x hx
            rw [List.take_add_one, HM.out] at hx
            rcases List.mem_append.1 hx with h | h
            · exact HNO.out x h
            · simp only [Option.toList_some, List.mem_singleton] at h
              subst h
              exact hms)
          generalize m.slot = m0 at *
          clear hms
          go_upto_region 14 with (fail)
          go_quiet ((go_at_call 34; exact quiet_same (HSLOT.out _ (HT0.out _))))
          have HKN := Lib.hid (HK.out.drewN nq)
          clear c0 HT0
          generalize wr.drewN nq = Y at *
          go_wp2_with fail
          clear hb
          go_roundg (q - (i + 1))
          case rel => exact ⟨i + 1, by omega, by go_num, rfl, HNO2.out, HKN.out⟩
          case measure => omega
      · obtain rfl : i = q := by omega
        have he : v = u := HNONE.out (fun m hm => HNO.out m (by rw [List.take_of_length_le (by rw [HQ.out]; exact Nat.le_refl _)]; exact hm))
        subst he
        obtain ⟨y0, y1, y2, -⟩ := HB10.out.kept HK.out
        go_wp2_with fail
        clear y0 y1 y2
        with_reducible refine (HOWY.out _ HK.out).mono ?_
        rintro e Y2 ⟨rfl, kx⟩
        have HKE := Lib.hid (KV.out.trans (HK.out.trans kx))
        have hb2 : (v == v) = true := by simp
        clear kx
        go_wp2_with fail
        go_ret
        exact ⟨rfl, HKE.out⟩
end Go.Proofs.YtplkmbfeeegaiaaDoor
