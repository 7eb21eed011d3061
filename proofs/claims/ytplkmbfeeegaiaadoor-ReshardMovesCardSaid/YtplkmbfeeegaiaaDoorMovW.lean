/-
  ReshardMoves: the walk.
-/
import Derived.Test.YtplkmbfeeegaiaaDoorM5
import Derived.Test.YtplkmbfeeegaiaaDoorM2
namespace Go.Proofs.YtplkmbfeeegaiaaDoor
open Go.RowKit Go.Shelf

set_option maxRecDepth 100000 in
set_option maxHeartbeats 8000000 in
theorem moves13_law (vx : Value) (xs : List Int) (vy : Value) (ys : List Int) (c : Int) (w : World) (hx : Its w vx xs) (hy : Its w vy ys) (hc : I64 c) (hT : Tab w) : Calls Tryd.prog 11 #[vx, vy, .int .i64 c] w fun e w' => e = .returned (.bool true) ∧ Keep (fun _ => False) w w' := by
  have HX := Lib.hid hx
  have HY := Lib.hid hy
  have HC := Lib.hid hc
  have HT := Lib.hid hT
  have HVX := Lib.hid (mem13_vl xs)
  have HVY := Lib.hid (mem13_vl ys)
  clear hx hy hc hT
  go_enter Tryd.func11, Tryd.ntmps11
  go_wp2_with fail
  with_reducible refine (sane13_any w HT.out).mono ?_
  rintro e W1 ⟨rfl, k1⟩
  have KV := Lib.hid k1
  clear k1
  go_wp2_with fail
  with_reducible refine (members_mbs _ xs (HX.out.kept KV.out)).mono ?_
  rintro e W2 ⟨a2, c2, rfl, hm, k2⟩
  replace KV := Lib.hid (KV.out.trans k2)
  have HM := Lib.hid hm
  clear hm k2
  generalize hlx : mem13 xs = lx at *
  clear hlx
  obtain ⟨nx, hnx⟩ : ∃ n, lx.length = n := ⟨_, rfl⟩
  have HOX := Lib.hid (ok_new PN QS HVX.out.1 (ep := 1) (by decide))
  have HNX := Lib.hid hnx
  rw [hnx] at HM ⊢
  go_wp2_with fail
  with_reducible refine (good_new _ lx HM.out HVX.out.1 (HT.out.kept KV.out)).mono ?_
  rintro e W3 ⟨am, cm, ao, co, rfl, hr, k⟩
  rw [hnx] at hr ⊢
  clear hnx HM
  generalize ownersL PN QS lx = ox at *
  have ka : Keep (fun _ => False) W3 (W3.alloc (.cells #[.int .i64 1, .slice am nx cm, .slice ao 64 co] 31)) := (Keep.refl _ W3).alloc _
  have HB8 := Lib.hid (Box3.new W3 (.int .i64 1) (.slice am nx cm) (.slice ao 64 co) 31)
  have HR8 := Lib.hid (hr.kept ka)
  replace KV := Lib.hid (KV.out.trans (k.trans ka))
  clear hr k ka
  go_upto_region 3 with (fail)
  generalize W3.alloc (.cells #[.int .i64 1, .slice am nx cm, .slice ao 64 co] 31) = V3 at *
  generalize W3.heap.size = z8 at *
  go_upto_region 5 with (fail)
  generalize hly : mem13 ys = ly at *
  have HLY := Lib.hid hly
  clear hly
  obtain ⟨ny, hny⟩ : ∃ n, ly.length = n := ⟨_, rfl⟩
  have HNY := Lib.hid hny
  clear hny
  have HOY : Hid (okRing 2 ly (changeL PN QS ly ox)) := Lib.hid (ok_change PN QS HOX.out HVY.out.1 (by decide))
  have r0 : ∀ p : KA (fun _ => False) V3, p.val.cell? ⟨z8, 0, none⟩ = some (.int .i64 1) := fun p => (HB8.out.kept p.k).1
  have r1 : ∀ p : KA (fun _ => False) V3, p.val.cell? ⟨z8, 1, none⟩ = some (.slice am nx cm) := fun p => (HB8.out.kept p.k).2.1
  have r2 : ∀ p : KA (fun _ => False) V3, p.val.cell? ⟨z8, 2, none⟩ = some (.slice ao 64 co) := fun p => (HB8.out.kept p.k).2.2.1
  refine wp_region_free3 [0, 1] [⟨2, 29, []⟩, ⟨3, 30, [29]⟩, ⟨4, 26, [30]⟩, ⟨7, 10, []⟩, ⟨5, 31, [26]⟩, ⟨6, 32, [26]⟩] ⟨6, 32, [26]⟩ (by simp) [(false, 8), (false, 9)] (inKA (fun _ => False) V3) (nextS 29 30 26 10 31 32 V3.heap.size 2 ly (changeL PN QS ly ox) ny) (Keep (fun _ => False)) (by kernel_rfl) (by kernel_rfl) (inKA.of (Keep.refl _ V3).drew) nextS_keep (fun w w' hw hk => by obtain ⟨p, rfl⟩ := hw; exact inKA.of (p.k.trans hk)) ?_
  iterate 2 (refine headW_step rfl (fun K hK => ?_); go_simp; refine hK _ ?_; clear hK K)
  clear r0 r1 r2
  refine ⟨?_, ?_, ?_, ?_⟩
  · intro h hh
    simp only [List.mem_cons, List.not_mem_nil, or_false] at hh
    rcases hh with rfl | rfl | rfl | rfl | rfl | rfl <;> simp
  · refine freeW_step rfl (fun vs W hC hS K hK => ?_) (freeW_step rfl (fun vs W hC hS K hK => ?_) (freeW_step rfl (fun vs W hC hS K hK => ?_) (freeW_step rfl (fun vs W hC hS K hK => ?_) (freeW_step rfl (fun vs W hC hS K hK => ?_) (freeW_step rfl (fun vs W hC hS K hK => ?_) trivial)))))
    · obtain ⟨p, rfl⟩ := hC
      simp only [putL, List.foldl]
      have HMB := Lib.hid (members_mbs _ ys (HY.out.kept (KV.out.trans p.k)))
      go_simp
      refine HMB.out.mono ?_
      rintro e W2 ⟨a, c, rfl, hm, kk⟩
      rw [HLY.out, HNY.out] at hm ⊢
      exact hK _ _ ⟨fun _ => ⟨a, c, rfl, hm⟩, fun e => absurd e (by decide), fun e => absurd e (by decide), fun e => absurd e (by decide), fun e => absurd e (by decide)⟩ kk
    · obtain ⟨p, rfl⟩ := hC
      obtain ⟨a, c, e2, hm⟩ := (hS 29 (by simp)).1 rfl
      simp only [putL, List.foldl]
      generalize vs 29 = v29 at *
      subst e2
      have hch := next_change _ _ _ lx ly ox (HR8.out.kept p.k) HOX.out (by decide) hm HVY.out.1 (HT.out.kept (KV.out.trans p.k))
      rw [show (1 : Int) + 1 = 2 from rfl] at hch
      have HCH := Lib.hid hch
      clear hch
      go_simp
      refine HCH.out.mono ?_
      rintro e W2 ⟨v, rfl, hnv, kk⟩
      rw [HNY.out] at hnv
      have hsz := p.k.size
      exact hK _ _ ⟨fun e => absurd e (by decide), fun _ => hnv.lo hsz, fun e => absurd e (by decide), fun e => absurd e (by decide), fun e => absurd e (by decide)⟩ kk
    · have hnv := (hS 30 (by simp)).2.1 (.inl rfl)
      simp only [putL, List.foldl]
      generalize vs 30 = v30 at *
      go_simp
      exact hK _ _ ⟨fun e => absurd e (by decide), fun _ => hnv, fun e => absurd e (by decide), fun e => absurd e (by decide), fun e => absurd e (by decide)⟩ (Keep.refl _ W)
    · obtain ⟨p, rfl⟩ := hC
      simp only [putL, List.foldl]
      have hsz := p.k.size
      go_simp
      exact hK _ _ ⟨fun e => absurd e (by decide), fun e => absurd e (by decide), fun _ => ⟨p.val.heap.size, rfl, hsz, Box3.new _ _ _ _ _, ⟨_, World.alloc_heap_new _ _⟩⟩, fun e => absurd e (by decide), fun e => absurd e (by decide)⟩ ((Keep.refl _ p.val).alloc _)
    · obtain ⟨a, c, b, d, e1, h1, h2⟩ := (hS 26 (by simp)).2.1 (.inr rfl)
      simp only [putL, List.foldl]
      generalize vs 26 = v26 at *
      subst e1
      go_simp
      exact hK _ _ ⟨fun e => absurd e (by decide), fun e => absurd e (by decide), fun e => absurd e (by decide), fun _ => ⟨a, c, b, d, rfl, h1, h2⟩, fun e => absurd e (by decide)⟩ (Keep.refl _ W)
    · obtain ⟨a, c, b, d, e1, h1, h2⟩ := (hS 26 (by simp)).2.1 (.inr rfl)
      simp only [putL, List.foldl]
      generalize vs 26 = v26 at *
      subst e1
      go_simp
      exact hK _ _ ⟨fun e => absurd e (by decide), fun e => absurd e (by decide), fun e => absurd e (by decide), fun e => absurd e (by decide), fun _ => rfl⟩ (Keep.refl _ W)
  · refine ⟨_, rfl, rfl, fun vs W hC hS K hK => ?_⟩
    obtain ⟨a, c, b, d, e1, -⟩ := (hS ⟨4, 26, [30]⟩ (by simp) (by decide)).2.1 (.inr rfl)
    simp only [] at e1
    simp only [List.filter, List.map, putL, List.foldl, Nat.reduceBEq, Bool.not_false, Bool.not_true]
    generalize vs 26 = v26 at *
    subst e1
    go_simp
    exact hK _ ⟨fun e => absurd e (by decide), fun e => absurd e (by decide), fun e => absurd e (by decide), fun e => absurd e (by decide), fun _ => rfl⟩
  · intro vs W hC hS
    obtain ⟨p, rfl⟩ := hC
    obtain ⟨a29, c29, e1, -⟩ := (hS ⟨2, 29, []⟩ (by simp)).1 rfl
    obtain ⟨a30, c30, b30, d30, e2, -⟩ := (hS ⟨3, 30, [29]⟩ (by simp)).2.1 (.inl rfl)
    obtain ⟨a26, c26, b26, d26, e3, -⟩ := (hS ⟨4, 26, [30]⟩ (by simp)).2.1 (.inr rfl)
    obtain ⟨z10, e4, hz9, hb9, ht9⟩ := (hS ⟨7, 10, []⟩ (by simp)).2.2.1 rfl
    obtain ⟨am2, cm2, ao2, co2, e5, hm9, ho9⟩ := (hS ⟨5, 31, [26]⟩ (by simp)).2.2.2.1 rfl
    have e6 := (hS ⟨6, 32, [26]⟩ (by simp)).2.2.2.2 rfl
    simp only [] at e1 e2 e3 e4 e5 e6
    simp only [List.map, putL, List.foldl]
    generalize vs 29 = v29 at *
    generalize vs 30 = v30 at *
    generalize vs 26 = v26 at *
    generalize vs 10 = v10 at *
    generalize vs 31 = v31 at *
    generalize vs 32 = v32 at *
    subst e1 e2 e3 e4 e5 e6
    have HGMZ : Hid (∀ b, (Value.slice am2 ny cm2).ownBlock = some b → b ≠ z10) := Lib.hid (fun b hb => own_ne hm9 ht9 (by decide) hb)
    have HGOZ : Hid (∀ b, (Value.slice ao2 64 co2).ownBlock = some b → b ≠ z10) := Lib.hid (fun b hb => own_ne ho9 ht9 (by decide) hb)
    have HKP := Lib.hid p.k
    have HBP := Lib.hid hb9
    have HRP : Hid (Rng p.val (.agg #[.int .i64 2, .slice am2 ny cm2, .slice ao2 64 co2]) 2 ly (changeL PN QS ly ox)) := Lib.hid (next_rng hm9 ho9 HNY.out HOY.out)
    have HZ9 : Hid (V3.heap.size ≤ z10) := Lib.hid hz9
    have HGB : Hid ((∀ b, (Value.slice am2 ny cm2).ownBlock = some b → V3.heap.size ≤ b) ∧ ∀ b, (Value.slice ao2 64 co2).ownBlock = some b → V3.heap.size ≤ b) := Lib.hid ⟨fun b hb => (hm9.lt b hb).1, fun b hb => (ho9.lt b hb).1⟩
    clear hS hz9 hb9 ht9 hm9 ho9
    generalize p.val = V at *
    obtain ⟨y0, y1, y2, yf⟩ := HBP.out
    refine walkW_do rfl (inKA.of HKP.out) (fun K hK => ?_)
    go_simp
    refine hK _ _ ?_; clear hK K
    clear y0 y1 y2 yf
    have kq : Keep (fun j => j = z10) V (((V.setCell ⟨z10, 0, none⟩ (.int .i64 2)).setCell ⟨z10, 1, none⟩ (.slice am2 ny cm2)).setCell ⟨z10, 2, none⟩ (.slice ao2 64 co2)) := (((Keep.refl (fun j => j = z10) V).setCell (p := ⟨z10, 0, none⟩) _ (.inl rfl)).setCell (p := ⟨z10, 1, none⟩) _ (.inl rfl)).setCell (p := ⟨z10, 2, none⟩) _ (.inl rfl)
    have HBQ := Lib.hid (((HBP.out.set0 (.int .i64 2)).set1 (.slice am2 ny cm2)).set2 (.slice ao2 64 co2))
    have HRQ := Lib.hid (HRP.out.keep kq (fun b hb e => HGMZ.out b hb e) (fun b hb e => HGOZ.out b hb e))
    have HKQ := Lib.hid (HKP.out.trans' kq (fun j e => .inr (by have h5 : j = z10 := e; have := HZ9.out; omega)))
    clear kq HBP HRP HKP HGMZ HGOZ
    generalize ((V.setCell ⟨z10, 0, none⟩ (.int .i64 2)).setCell ⟨z10, 1, none⟩ (.slice am2 ny cm2)).setCell ⟨z10, 2, none⟩ (.slice ao2 64 co2) = V6 at *
    refine walkW_do rfl (inKA.of HKQ.out) (fun K hK => ?_)
    go_simp
    refine hK _ _ ?_; clear hK K
    refine ⟨inKA.of HKQ.out, ?_⟩
    replace KV := Lib.hid (KV.out.trans HKQ.out)
    have HB8' := Lib.hid (HB8.out.kept HKQ.out)
    have HR8' := Lib.hid (HR8.out.kept HKQ.out)
    clear HB8 HR8 HKQ
    generalize changeL PN QS ly ox = oy at *
    have HMX : Hid (Mbs V6 (.slice am nx cm) lx) := Lib.hid (by
      obtain ⟨vm, vo, e, h1, h2⟩ := HR8'.out.at_
      cases e
      exact h1)
    go_upto_region 6 with (fail)
    obtain ⟨x0, x1, x2, -⟩ := HB8'.out
    go_wp2_with fail
    clear x0 x1 x2
    have hch := good_change _ _ 1 lx lx ox HR8'.out HOX.out (by decide) HMX.out HVX.out.1 (HT.out.kept KV.out)
    rw [ok_self PN QS HOX.out, show (1 : Int) + 1 = 2 from rfl] at hch
    with_reducible refine hch.mono ?_
    clear hch
    rintro e W7 ⟨am3, cm3, ao3, co3, rfl, hr, k⟩
    rw [HNX.out] at hr ⊢
    have ka : Keep (fun _ => False) W7 (W7.alloc (.cells #[.int .i64 2, .slice am3 nx cm3, .slice ao3 64 co3] 31)) := (Keep.refl _ W7).alloc _
    have HB12 := Lib.hid (Box3.new W7 (.int .i64 2) (.slice am3 nx cm3) (.slice ao3 64 co3) 31)
    have HR12 := Lib.hid (hr.kept ka)
    have HB8 := Lib.hid (HB8'.out.kept (k.trans ka))
    have HR8 := Lib.hid (HR8'.out.kept (k.trans ka))
    have HB10 := Lib.hid (HBQ.out.kept (k.trans ka))
    have HR10 := Lib.hid (HRQ.out.kept (k.trans ka))
    replace KV := Lib.hid (KV.out.trans (k.trans ka))
    clear hr k ka HB8' HR8' HBQ HRQ HMX
    go_upto_region 7 with (fail)
    generalize W7.alloc (.cells #[.int .i64 2, .slice am3 nx cm3, .slice ao3 64 co3] 31) = V7 at *
    generalize W7.heap.size = z12 at *
    have HLX : Hid (ox.length = 64) := Lib.hid HOX.out.2.2.2.1
    have HLYO : Hid (oy.length = 64) := Lib.hid HOY.out.2.2.2.1
    go_upto_region 9 with (fail)
    obtain ⟨x0, x1, x2, -⟩ := HB8.out
    obtain ⟨y0, y1, y2, -⟩ := HB10.out
    go_wp2_with fail
    clear x0 x1 x2 y0 y1 y2
    with_reducible refine (moves_any _ _ _ _ _ _ _ _ V7 HR8.out HR10.out HLX.out HLYO.out).mono ?_
    rintro e W8 ⟨aq, cq, rfl, hown, k⟩
    have hbd := movesK_bd (okRing_nodes HOX.out) (okRing_nodes HOY.out)
    have hmv := mvs_owns hown (by have := movesK_len ox oy 64; omega) hbd
    have hq := movesK_len ox oy 64
    have HSL := Lib.hid (moves_slot (a := ox) (b := oy))
    have HBD := Lib.hid hbd
    have HAP := Lib.hid (apply_turned HLX.out HLYO.out)
    have HAD := Lib.hid (apply_doubled HLX.out HLYO.out)
    generalize movesK ox oy 64 = ms at *
    obtain ⟨q, hqe⟩ : ∃ n, ms.length = n := ⟨_, rfl⟩
    have HQ := Lib.hid hqe
    rw [hqe] at hown hmv hq ⊢
    have HMV := Lib.hid hmv
    have HOWN := Lib.hid hown
    have HB8' := Lib.hid (HB8.out.kept k)
    have HR8' := Lib.hid (HR8.out.kept k)
    have HB10' := Lib.hid (HB10.out.kept k)
    have HR10' := Lib.hid (HR10.out.kept k)
    have HB12' := Lib.hid (HB12.out.kept k)
    have HR12' := Lib.hid (HR12.out.kept k)
    replace KV := Lib.hid (KV.out.trans k)
    clear hbd hmv hqe hown k HB8 HR8 HB10 HR10 HB12 HR12
    have hq1 : IntKind.i64.wrap ((q : Int) + 1) = (q : Int) + 1 := wrapI (by unfold I64; omega)
    go_wp2_with fail
    with_reducible refine (pick13_any c ((q : Int) + 1) _ HC.out (by omega)).mono ?_
    rintro e w' ⟨rfl, rfl⟩
    have hpk := pk_bd c ((q : Int) + 1) (by omega)
    obtain ⟨kn, hkn⟩ : ∃ n : Nat, pk c ((q : Int) + 1) = n := ⟨(pk c ((q : Int) + 1)).toNat, by omega⟩
    rw [hkn] at hpk ⊢
    clear hkn
    have hkq : kn ≤ q := by omega
    clear hpk
    go_upto_region 11 with (fail)
    have hk0 : (0 : Int) ≤ (kn : Int) := by omega
    have hkl : (kn : Int) ≤ (q : Int) := by omega
    have hkl2 : ¬ (q : Int) < (kn : Int) := by omega
    rcases HOWN.out.2 with ⟨e1, e2⟩ | ⟨g, cap, cur, e1, hcur⟩
    · obtain ⟨rfl, rfl, rfl⟩ := Value.slice.inj e1
      obtain rfl : kn = 0 := by omega
      clear e1 e2
      have hms : ms = [] := List.eq_nil_of_length_eq_zero HQ.out
      obtain ⟨kz, hkz⟩ : ∃ k : Nat, k = 0 := ⟨0, rfl⟩
      have HS1 : Hid (Mvs W8 (.slice none 0 0) (ms.drop kz)) := Lib.hid (by rw [hms, List.drop_nil]; exact mvs_nil W8)
      have HS2 : Hid (Mvs W8 (.slice none 0 0) (ms.take kz)) := Lib.hid (by rw [hms, List.take_nil]; exact mvs_nil W8)
      clear hms hkz
      refine wp_region_walk [(true, 1), (true, 2), (true, 3), (true, 5), (true, 6), (true, 7), (false, 0), (false, 4), (false, 8), (false, 9)] (inKA (fun _ => False) W8) (by kernel_rfl) (by kernel_rfl) ?_
      iterate 6 (refine walkW_read rfl (fun K hK => ?_); go_simp; refine hK _ ?_; clear hK K)
      have HKD : Hid (Keep (fun _ => False) W8 W8.drew) := Lib.hid (Keep.refl _ W8).drew
      refine walkW_do rfl (inKA.of HKD.out) (fun K hK => ?_)
      go_simp
      refine hK _ _ ?_; clear hK K
      have HK1 : Hid (Keep (fun _ => False) W8 (W8.alloc (.cells #[] 60)).drew) := Lib.hid ((Keep.refl _ W8).alloc _).drew
      have HO1 : Hid ((W8.alloc (.cells #[] 60)).drew.ownsRow W8.heap.size 60 3 (.slice (some ⟨W8.heap.size, 0, none⟩) 0 0) 0 (flatV [])) := Lib.hid (ownsRow_keep (World.ownsRow_lit W8 #[] 0 (Nat.le_refl _) (by decide) rfl) (Keep.refl (fun _ => False) _).drew (fun _ _ h => h))
      generalize (W8.alloc (.cells #[] 60)).drew = V1 at *
      have HB8 := Lib.hid (HB8'.out.kept HK1.out)
      obtain ⟨B, hB⟩ : ∃ B, W8.heap.size = B := ⟨_, rfl⟩
      have HB := Lib.hid hB
      rw [hB] at HO1 ⊢
      clear hB
      obtain ⟨v1, V2, hr1, ho1, hk1⟩ := app_mvs0 V1 55 B _ _ [] (ms.drop kz) HO1.out (HS1.out.kept HK1.out) (by have := HQ.out; simp; omega) (by have := HB.out; have := HK1.out.size; omega)
      have HK2 : Hid (Keep (fun _ => False) W8 V2) := Lib.hid (HK1.out.trans' hk1 (fun j e => .inr (by
        have e2 : B = j := by simpa [Value.ownBlock] using e
        have := HB.out
        omega)))
      rw [List.nil_append] at ho1
      obtain ⟨v2, V3', hr2, ho2, hk2⟩ := app_mvs0 V2 55 B v1 _ (ms.drop kz) (ms.take kz) ho1 (HS2.out.kept HK2.out) (by have := HQ.out; simp; omega) (by have := HB.out; have := HK2.out.size; omega)
      have HO1' := Lib.hid ho1
      have HK3 : Hid (Keep (fun _ => False) W8 V3') := Lib.hid (HK2.out.trans' hk2 (fun j e => .inr (by have := (HO1'.out.lt j e).1; have := HB.out; omega)))
      have HR1 := Lib.hid hr1
      have HR2 := Lib.hid hr2
      have HO2 := Lib.hid ho2
      clear hr1 hr2 ho1 ho2 hk1 hk2
      refine walkW_do rfl (inKA.of HK1.out) (fun K hK => ?_)
      rw [if_pos (by simp [Region.wanted])]
      refine wp_app (.tmp 54) (.tmp 57) 55 rfl rfl rfl HR1.out (hK _ _ ?_); clear hK K
      refine walkW_do rfl (inKA.of HK2.out) (fun K hK => ?_)
      rw [if_pos (by simp [Region.wanted])]
      refine wp_app (.tmp 58) (.tmp 61) 55 rfl rfl rfl HR2.out (hK _ _ ?_); clear hK K
      refine walkW_do rfl (inKA.of HK3.out) (fun K hK => ?_)
      go_simp
      refine hK _ _ ?_; clear hK K
      refine ⟨inKA.of HK3.out, ?_⟩
      go_upto_region 12 with (fail)
      have HKN := Lib.hid (HAP.out kz)
      have HDN := Lib.hid (HAD.out kz)
      have HTM : Hid (∀ m ∈ ms.drop kz ++ ms.take kz, m ∈ ms) := Lib.hid (fun m hm => by
        rcases List.mem_append.1 hm with h | h
        · exact List.mem_of_mem_drop h
        · exact List.mem_of_mem_take h)
      have HTN : Hid ((ms.drop kz ++ ms.take kz).length = 0) := Lib.hid (by
        have := HQ.out
        rw [List.length_append, List.length_drop, List.length_take]
        omega)
      clear HO1 HO1' HR1 HR2 HS1 HS2 HK1 HK2 HB8
      generalize ms.drop kz ++ ms.take kz = tl at *
      obtain ⟨a16, c16, rfl⟩ := own_form HO2.out
      have HMM := Lib.hid (mvs_owns HO2.out (by have := HTN.out; omega) (fun m hm => HBD.out m (HTM.out m hm)))
      rw [HTN.out] at HO2 HMM ⊢
      have HL8 := Lib.hid (HR8'.out.low (List.length_pos_iff.2 HVX.out.1.ne) (by rw [HLX.out]; decide))
      have HL10 := Lib.hid (HR10'.out.low (List.length_pos_iff.2 HVY.out.1.ne) (by rw [HLYO.out]; decide))
      have HL12 := Lib.hid (HR12'.out.low (List.length_pos_iff.2 HVX.out.1.ne) (by rw [HLX.out]; decide))
      have HA8 : Hid (∀ j, (Value.slice a16 0 c16).ownBlock = some j → W8.heap.size ≤ j) := Lib.hid (fun j hj => by
        have := (HO2.out.lt j hj).1
        have := HB.out
        omega)
      have HZ8 := Lib.hid HB8'.out.lt
      have HZ10 := Lib.hid HB10'.out.lt
      have HZ12 := Lib.hid HB12'.out.lt
      have HBB : Hid (B ≤ V3'.heap.size) := Lib.hid (by have := HB.out; have := HK3.out.size; omega)
      have HB8 := Lib.hid (HB8'.out.kept HK3.out)
      have HB10 := Lib.hid (HB10'.out.kept HK3.out)
      have HB12 := Lib.hid (HB12'.out.kept HK3.out)
      have HR8 := Lib.hid (HR8'.out.kept HK3.out)
      have HR10 := Lib.hid (HR10'.out.kept HK3.out)
      have HR12 := Lib.hid (HR12'.out.kept HK3.out)
      have HML := Lib.hid (HMV.out.kept HK3.out)
      generalize V3' = Y at *
      have r0 : ∀ p : KA (fun j => (Value.slice a16 0 c16).ownBlock = some j) Y, p.val.cell? ⟨z8, 0, none⟩ = some (.int .i64 1) := fun p => (HB8.out.keep p.k (fun e => by have := HA8.out _ e; have := HZ8.out; omega)).1
      have r1 : ∀ p : KA (fun j => (Value.slice a16 0 c16).ownBlock = some j) Y, p.val.cell? ⟨z8, 1, none⟩ = some (.slice am nx cm) := fun p => (HB8.out.keep p.k (fun e => by have := HA8.out _ e; have := HZ8.out; omega)).2.1
      have r2 : ∀ p : KA (fun j => (Value.slice a16 0 c16).ownBlock = some j) Y, p.val.cell? ⟨z8, 2, none⟩ = some (.slice ao 64 co) := fun p => (HB8.out.keep p.k (fun e => by have := HA8.out _ e; have := HZ8.out; omega)).2.2.1
      have s0 : ∀ p : KA (fun j => (Value.slice a16 0 c16).ownBlock = some j) Y, p.val.cell? ⟨z10, 0, none⟩ = some (.int .i64 2) := fun p => (HB10.out.keep p.k (fun e => by have := HA8.out _ e; have := HZ10.out; omega)).1
      have s1 : ∀ p : KA (fun j => (Value.slice a16 0 c16).ownBlock = some j) Y, p.val.cell? ⟨z10, 1, none⟩ = some (.slice am2 ny cm2) := fun p => (HB10.out.keep p.k (fun e => by have := HA8.out _ e; have := HZ10.out; omega)).2.1
      have s2 : ∀ p : KA (fun j => (Value.slice a16 0 c16).ownBlock = some j) Y, p.val.cell? ⟨z10, 2, none⟩ = some (.slice ao2 64 co2) := fun p => (HB10.out.keep p.k (fun e => by have := HA8.out _ e; have := HZ10.out; omega)).2.2.1
      refine wp_region_walk [(false, 0), (false, 1), (true, 2), (true, 3), (true, 5), (true, 6), (false, 4), (false, 7), (false, 8), (false, 9), (true, 10), (true, 11), (true, 12), (true, 15), (true, 16), (false, 13), (false, 14), (false, 17), (false, 18), (false, 19), (true, 20), (false, 21), (false, 22), (false, 23), (false, 24), (false, 25), (false, 26), (true, 27), (false, 28), (false, 29), (false, 30), (false, 31), (false, 32), (false, 33)] (inKA (fun j => (Value.slice a16 0 c16).ownBlock = some j) Y) (by kernel_rfl) (by kernel_rfl) ?_
      have HKD : Hid (Keep (fun _ => False) Y Y.drew) := Lib.hid (Keep.refl _ Y).drew
      have KAD : Hid (Keep (fun j => (Value.slice a16 0 c16).ownBlock = some j) Y Y.drew) := Lib.hid (HKD.out.mono (fun _ h => h.elim))
      refine walkW_do rfl (inKA.of KAD.out) (fun K hK => ?_); go_simp; refine hK _ _ ?_; clear hK K
      refine walkW_do rfl (inKA.of KAD.out) (fun K hK => ?_); go_simp; refine hK _ _ ?_; clear hK K
      refine walkW_read rfl (fun K hK => ?_); go_simp; refine hK _ ?_; clear hK K
      refine walkW_read rfl (fun K hK => ?_); go_simp; refine hK _ ?_; clear hK K
      refine walkW_read rfl (fun K hK => ?_); go_simp; refine hK _ ?_; clear hK K
      refine walkW_read rfl (fun K hK => ?_); go_simp; refine hK _ ?_; clear hK K
      have HAC := Lib.hid (apply_any _ _ 1 lx ox tl Y.drew (HR8.out.kept HKD.out) HLX.out (HMM.out.kept HKD.out) (fun m hm => HSL.out m (HTM.out m hm)))
      rw [HKN.out] at HAC
      generalize Y.drew = Y0 at *
      refine walkW_do rfl (inKA.of KAD.out) (fun K hK => ?_)
      go_simp
      with_reducible refine HAC.out.mono ?_
      rintro e Y1 ⟨a67, c67, rfl, h67, k67⟩
      rw [HLYO.out] at h67 ⊢
      refine hK _ _ ?_; clear hK K HAC
      have HYB : Hid (∀ x ∈ oy, I64 x) := Lib.hid HOY.out.obd
      have h67' : Its Y1 (.slice a67 64 c67) oy := by
        have h := its_owns (lo := Y0.heap.size) (v := .slice a67 64 c67) (xs := oy) (by rw [HLYO.out]; exact h67) (by rw [HLYO.out]; decide) HYB.out
        exact h
      have HK1 := Lib.hid (HKD.out.trans k67)
      have KA1 : Hid (Keep (fun j => (Value.slice a16 0 c16).ownBlock = some j) Y Y1) := Lib.hid (HK1.out.mono (fun _ h => h.elim))
      have HSC := Lib.hid (sameInts_any _ _ oy oy Y1 h67' (HR10.out.kept HK1.out).its)
      rw [decide_eq_true (rfl : oy = oy)] at HSC
      clear h67 h67' k67
      refine walkW_do rfl (inKA.of KA1.out) (fun K hK => ?_)
      go_simp
      with_reducible refine HSC.out.mono ?_
      rintro e Y2 ⟨rfl, k68⟩
      refine hK _ _ ?_; clear hK K HSC
      have HK2 := Lib.hid (HK1.out.trans k68)
      have KA2 : Hid (Keep (fun j => (Value.slice a16 0 c16).ownBlock = some j) Y Y2) := Lib.hid (HK2.out.mono (fun _ h => h.elim))
      clear k68 HK1 KA1 HKD KAD
      refine walkW_do rfl (inKA.of KA2.out) (fun K hK => ?_); go_simp; refine hK _ _ ?_; clear hK K
      refine walkW_do rfl (inKA.of KA2.out) (fun K hK => ?_); go_simp; refine hK _ _ ?_; clear hK K
      refine walkW_read rfl (fun K hK => ?_); go_simp; refine hK _ ?_; clear hK K
      refine walkW_read rfl (fun K hK => ?_); go_simp; refine hK _ ?_; clear hK K
      refine walkW_read rfl (fun K hK => ?_); go_simp; refine hK _ ?_; clear hK K
      refine walkW_read rfl (fun K hK => ?_); go_simp; refine hK _ ?_; clear hK K
      refine walkW_read rfl (fun K hK => ?_); go_simp; refine hK _ ?_; clear hK K
      obtain ⟨v76, Y3, hr3, ho3, hk3⟩ := app_mvs0 Y2 55 B (.slice a16 0 c16) (.slice none 0 0) tl ms (by rw [HTN.out]; exact ownsRow_keep HO2.out HK2.out (fun _ _ h => h)) (HML.out.kept HK2.out) (by have := HTN.out; have := HQ.out; omega) (by have := HBB.out; have := HK2.out.size; omega)
      have KA3 : Hid (Keep (fun j => (Value.slice a16 0 c16).ownBlock = some j) Y Y3) := Lib.hid (KA2.out.trans hk3)
      have HO3 := Lib.hid ho3
      have HR3 := Lib.hid hr3
      clear hr3 ho3 hk3
      refine walkW_do rfl (inKA.of KA2.out) (fun K hK => ?_)
      rw [if_pos (by first | rfl | simp [Region.wanted, yielded])]
      refine wp_app (.tmp 74) (.tmp 75) 55 rfl rfl rfl HR3.out (hK _ _ ?_); clear hK K HR3
      have HR8c := Lib.hid (HR8.out.keep KA3.out (fun j hj e => by have := HA8.out _ e; have := HL8.out.1 j hj; omega) (fun j hj e => by have := HA8.out _ e; have := HL8.out.2 j hj; omega))
      have HR10c := Lib.hid (HR10.out.keep KA3.out (fun j hj e => by have := HA8.out _ e; have := HL10.out.1 j hj; omega) (fun j hj e => by have := HA8.out _ e; have := HL10.out.2 j hj; omega))
      have HR12c := Lib.hid (HR12.out.keep KA3.out (fun j hj e => by have := HA8.out _ e; have := HL12.out.1 j hj; omega) (fun j hj e => by have := HA8.out _ e; have := HL12.out.2 j hj; omega))
      obtain ⟨a76, c76, rfl⟩ := own_form HO3.out
      have HTM3 : Hid (∀ m ∈ tl ++ ms, m ∈ ms) := Lib.hid (fun m hm => by
        rcases List.mem_append.1 hm with h | h
        · exact HTM.out m h
        · exact h)
      have HM3 := Lib.hid (mvs_owns HO3.out (by have := HTN.out; have := HQ.out; rw [List.length_append]; omega) (fun m hm => HBD.out m (HTM3.out m hm)))
      obtain ⟨n76, hn76⟩ : ∃ n, (tl ++ ms).length = n := ⟨_, rfl⟩
      rw [hn76] at HM3 ⊢
      clear hn76
      have HAC := Lib.hid (apply_any _ _ 1 lx ox (tl ++ ms) Y3 HR8c.out HLX.out HM3.out (fun m hm => HSL.out m (HTM3.out m hm)))
      rw [HDN.out] at HAC
      refine walkW_do rfl (inKA.of KA3.out) (fun K hK => ?_)
      go_simp
      with_reducible refine HAC.out.mono ?_
      rintro e Y4 ⟨a77, c77, rfl, h77, k77⟩
      rw [HLYO.out] at h77 ⊢
      refine hK _ _ ?_; clear hK K HAC
      have h77' : Its Y4 (.slice a77 64 c77) oy := by
        have h := its_owns (lo := Y3.heap.size) (v := .slice a77 64 c77) (xs := oy) (by rw [HLYO.out]; exact h77) (by rw [HLYO.out]; decide) HYB.out
        exact h
      have HK4 := Lib.hid k77
      have KA4 : Hid (Keep (fun j => (Value.slice a16 0 c16).ownBlock = some j) Y Y4) := Lib.hid (KA3.out.trans (k77.mono (fun _ h => h.elim)))
      have HSC := Lib.hid (sameInts_any _ _ oy oy Y4 h77' (HR10c.out.kept k77).its)
      rw [decide_eq_true (rfl : oy = oy)] at HSC
      clear h77 h77' k77
      refine walkW_do rfl (inKA.of KA4.out) (fun K hK => ?_)
      go_simp
      with_reducible refine HSC.out.mono ?_
      rintro e Y5 ⟨rfl, k80⟩
      refine hK _ _ ?_; clear hK K HSC
      have HK5 := Lib.hid (HK4.out.trans k80)
      have KA5 : Hid (Keep (fun j => (Value.slice a16 0 c16).ownBlock = some j) Y Y5) := Lib.hid (KA4.out.trans (k80.mono (fun _ h => h.elim)))
      clear k80
      refine walkW_do rfl (inKA.of KA5.out) (fun K hK => ?_); go_simp; refine hK _ _ ?_; clear hK K
      refine walkW_do rfl (inKA.of KA5.out) (fun K hK => ?_); go_simp; refine hK _ _ ?_; clear hK K
      refine walkW_read rfl (fun K hK => ?_); go_simp; refine hK _ ?_; clear hK K
      obtain ⟨u0, u1, u2, -⟩ := HB12.out.keep KA5.out (fun e => by have := HA8.out _ e; have := HZ12.out; omega)
      refine walkW_do rfl (inKA.of KA5.out) (fun K hK => ?_); go_simp; refine hK _ _ ?_; clear hK K
      clear u0 u1 u2
      have HMC := Lib.hid (moves_any _ _ _ _ _ _ _ _ Y5 (HR8c.out.kept HK5.out) (HR12c.out.kept HK5.out) HLX.out HLX.out)
      rw [movesK_self] at HMC
      refine walkW_do rfl (inKA.of KA5.out) (fun K hK => ?_)
      go_simp
      with_reducible refine HMC.out.mono ?_
      rintro e Y6 ⟨a85, c85, rfl, -, k85⟩
      rw [List.length_nil]
      refine hK _ _ ?_; clear hK K HMC
      have HK6 := Lib.hid (HK5.out.trans k85)
      have KA6 : Hid (Keep (fun j => (Value.slice a16 0 c16).ownBlock = some j) Y Y6) := Lib.hid (KA5.out.trans (k85.mono (fun _ h => h.elim)))
      clear k85
      refine walkW_do rfl (inKA.of KA6.out) (fun K hK => ?_); go_simp; refine hK _ _ ?_; clear hK K
      refine walkW_do rfl (inKA.of KA6.out) (fun K hK => ?_); go_simp; refine hK _ _ ?_; clear hK K
      refine walkW_do rfl (inKA.of KA6.out) (fun K hK => ?_); go_simp; refine hK _ _ ?_; clear hK K
      refine walkW_do rfl (inKA.of KA6.out) (fun K hK => ?_); go_simp; refine hK _ _ ?_; clear hK K
      refine walkW_read rfl (fun K hK => ?_); go_simp; refine hK _ ?_; clear hK K
      obtain ⟨u0, u1, u2, -⟩ := HB10.out.keep KA6.out (fun e => by have := HA8.out _ e; have := HZ10.out; omega)
      refine walkW_do rfl (inKA.of KA6.out) (fun K hK => ?_); go_simp; refine hK _ _ ?_; clear hK K
      clear u0 u1 u2
      have HMC := Lib.hid (moves_any _ _ _ _ _ _ _ _ Y6 (HR10c.out.kept HK6.out) (HR10c.out.kept HK6.out) HLYO.out HLYO.out)
      rw [movesK_self] at HMC
      refine walkW_do rfl (inKA.of KA6.out) (fun K hK => ?_)
      go_simp
      with_reducible refine HMC.out.mono ?_
      rintro e Y7 ⟨a92, c92, rfl, -, k92⟩
      rw [List.length_nil]
      refine hK _ _ ?_; clear hK K HMC
      have KA7 : Hid (Keep (fun j => (Value.slice a16 0 c16).ownBlock = some j) Y Y7) := Lib.hid (KA6.out.trans (k92.mono (fun _ h => h.elim)))
      clear k92
      refine walkW_do rfl (inKA.of KA7.out) (fun K hK => ?_); go_simp; refine hK _ _ ?_; clear hK K
      refine walkW_do rfl (inKA.of KA7.out) (fun K hK => ?_); go_simp; refine hK _ _ ?_; clear hK K
      refine walkW_do rfl (inKA.of KA7.out) (fun K hK => ?_); go_simp; refine hK _ _ ?_; clear hK K
      refine walkW_do rfl (inKA.of KA7.out) (fun K hK => ?_); go_simp; refine hK _ _ ?_; clear hK K
      refine ⟨inKA.of KA7.out, ?_⟩
      clear r0 r1 r2 s0 s1 s2
      have HKE : Hid (Keep (fun _ => False) w Y7) := Lib.hid ((KV.out.trans HK3.out).trans' KA7.out (fun j e => .inr (by have := HA8.out _ e; have := KV.out.size; omega)))
      go_wp2_with fail
      go_ret
      exact ⟨rfl, HKE.out⟩
    · obtain ⟨rfl, -, rfl⟩ := Value.slice.inj e1
      have hqc := hcur.2.2.1
      have hkc : kn ≤ cq := by omega
      clear e1 hcur
      have HS1 := Lib.hid (HMV.out.rest0 hkq)
      have HS2 := Lib.hid (HMV.out.cut hkq).1
      refine wp_region_walk [(true, 1), (true, 2), (true, 3), (true, 5), (true, 6), (true, 7), (false, 0), (false, 4), (false, 8), (false, 9)] (inKA (fun _ => False) W8) (by kernel_rfl) (by kernel_rfl) ?_
      iterate 6 (refine walkW_read rfl (fun K hK => ?_); go_simp; refine hK _ ?_; clear hK K)
      generalize (if cq = kn then some (⟨g, 0, none⟩ : Addr) else some ⟨g, kn * 3, none⟩) = A1 at *
      have HKD : Hid (Keep (fun _ => False) W8 W8.drew) := Lib.hid (Keep.refl _ W8).drew
      refine walkW_do rfl (inKA.of HKD.out) (fun K hK => ?_)
      go_simp
      refine hK _ _ ?_; clear hK K
      have HK1 : Hid (Keep (fun _ => False) W8 (W8.alloc (.cells #[] 60)).drew) := Lib.hid ((Keep.refl _ W8).alloc _).drew
      have HO1 : Hid ((W8.alloc (.cells #[] 60)).drew.ownsRow W8.heap.size 60 3 (.slice (some ⟨W8.heap.size, 0, none⟩) 0 0) 0 (flatV [])) := Lib.hid (ownsRow_keep (World.ownsRow_lit W8 #[] 0 (Nat.le_refl _) (by decide) rfl) (Keep.refl (fun _ => False) _).drew (fun _ _ h => h))
      generalize (W8.alloc (.cells #[] 60)).drew = V1 at *
      have HB8 := Lib.hid (HB8'.out.kept HK1.out)
      obtain ⟨B, hB⟩ : ∃ B, W8.heap.size = B := ⟨_, rfl⟩
      have HB := Lib.hid hB
      rw [hB] at HO1 ⊢
      clear hB
      obtain ⟨v1, V2, hr1, ho1, hk1⟩ := app_mvs0 V1 55 B _ _ [] (ms.drop kn) HO1.out (HS1.out.kept HK1.out) (by have := HQ.out; simp; omega) (by have := HB.out; have := HK1.out.size; omega)
      have HK2 : Hid (Keep (fun _ => False) W8 V2) := Lib.hid (HK1.out.trans' hk1 (fun j e => .inr (by
        have e2 : B = j := by simpa [Value.ownBlock] using e
        have := HB.out
        omega)))
      rw [List.nil_append] at ho1
      obtain ⟨v2, V3', hr2, ho2, hk2⟩ := app_mvs0 V2 55 B v1 _ (ms.drop kn) (ms.take kn) ho1 (HS2.out.kept HK2.out) (by have := HQ.out; simp; omega) (by have := HB.out; have := HK2.out.size; omega)
      have HO1' := Lib.hid ho1
      have HK3 : Hid (Keep (fun _ => False) W8 V3') := Lib.hid (HK2.out.trans' hk2 (fun j e => .inr (by have := (HO1'.out.lt j e).1; have := HB.out; omega)))
      have HR1 := Lib.hid hr1
      have HR2 := Lib.hid hr2
      have HO2 := Lib.hid ho2
      clear hr1 hr2 ho1 ho2 hk1 hk2
      refine walkW_do rfl (inKA.of HK1.out) (fun K hK => ?_)
      rw [if_pos (by simp [Region.wanted])]
      refine wp_app (.tmp 54) (.tmp 57) 55 rfl rfl rfl HR1.out (hK _ _ ?_); clear hK K
      refine walkW_do rfl (inKA.of HK2.out) (fun K hK => ?_)
      rw [if_pos (by simp [Region.wanted])]
      refine wp_app (.tmp 58) (.tmp 61) 55 rfl rfl rfl HR2.out (hK _ _ ?_); clear hK K
      refine walkW_do rfl (inKA.of HK3.out) (fun K hK => ?_)
      go_simp
      refine hK _ _ ?_; clear hK K
      refine ⟨inKA.of HK3.out, ?_⟩
      go_upto_region 12 with (fail)
      have HKN := Lib.hid (HAP.out kn)
      have HDN := Lib.hid (HAD.out kn)
      have HTM : Hid (∀ m ∈ ms.drop kn ++ ms.take kn, m ∈ ms) := Lib.hid (fun m hm => by
        rcases List.mem_append.1 hm with h | h
        · exact List.mem_of_mem_drop h
        · exact List.mem_of_mem_take h)
      have HTN : Hid ((ms.drop kn ++ ms.take kn).length = q) := Lib.hid (by
        have := HQ.out
        rw [List.length_append, List.length_drop, List.length_take]
        omega)
      clear HO1 HO1' HR1 HR2 HS1 HS2 HK1 HK2 HB8
      generalize ms.drop kn ++ ms.take kn = tl at *
      obtain ⟨a16, c16, rfl⟩ := own_form HO2.out
      have HMM := Lib.hid (mvs_owns HO2.out (by have := HTN.out; omega) (fun m hm => HBD.out m (HTM.out m hm)))
      rw [HTN.out] at HO2 HMM ⊢
      have HL8 := Lib.hid (HR8'.out.low (List.length_pos_iff.2 HVX.out.1.ne) (by rw [HLX.out]; decide))
      have HL10 := Lib.hid (HR10'.out.low (List.length_pos_iff.2 HVY.out.1.ne) (by rw [HLYO.out]; decide))
      have HL12 := Lib.hid (HR12'.out.low (List.length_pos_iff.2 HVX.out.1.ne) (by rw [HLX.out]; decide))
      have HA8 : Hid (∀ j, (Value.slice a16 q c16).ownBlock = some j → W8.heap.size ≤ j) := Lib.hid (fun j hj => by
        have := (HO2.out.lt j hj).1
        have := HB.out
        omega)
      have HZ8 := Lib.hid HB8'.out.lt
      have HZ10 := Lib.hid HB10'.out.lt
      have HZ12 := Lib.hid HB12'.out.lt
      have HBB : Hid (B ≤ V3'.heap.size) := Lib.hid (by have := HB.out; have := HK3.out.size; omega)
      have HB8 := Lib.hid (HB8'.out.kept HK3.out)
      have HB10 := Lib.hid (HB10'.out.kept HK3.out)
      have HB12 := Lib.hid (HB12'.out.kept HK3.out)
      have HR8 := Lib.hid (HR8'.out.kept HK3.out)
      have HR10 := Lib.hid (HR10'.out.kept HK3.out)
      have HR12 := Lib.hid (HR12'.out.kept HK3.out)
      have HML := Lib.hid (HMV.out.kept HK3.out)
      generalize V3' = Y at *
      have r0 : ∀ p : KA (fun j => (Value.slice a16 q c16).ownBlock = some j) Y, p.val.cell? ⟨z8, 0, none⟩ = some (.int .i64 1) := fun p => (HB8.out.keep p.k (fun e => by have := HA8.out _ e; have := HZ8.out; omega)).1
      have r1 : ∀ p : KA (fun j => (Value.slice a16 q c16).ownBlock = some j) Y, p.val.cell? ⟨z8, 1, none⟩ = some (.slice am nx cm) := fun p => (HB8.out.keep p.k (fun e => by have := HA8.out _ e; have := HZ8.out; omega)).2.1
      have r2 : ∀ p : KA (fun j => (Value.slice a16 q c16).ownBlock = some j) Y, p.val.cell? ⟨z8, 2, none⟩ = some (.slice ao 64 co) := fun p => (HB8.out.keep p.k (fun e => by have := HA8.out _ e; have := HZ8.out; omega)).2.2.1
      have s0 : ∀ p : KA (fun j => (Value.slice a16 q c16).ownBlock = some j) Y, p.val.cell? ⟨z10, 0, none⟩ = some (.int .i64 2) := fun p => (HB10.out.keep p.k (fun e => by have := HA8.out _ e; have := HZ10.out; omega)).1
      have s1 : ∀ p : KA (fun j => (Value.slice a16 q c16).ownBlock = some j) Y, p.val.cell? ⟨z10, 1, none⟩ = some (.slice am2 ny cm2) := fun p => (HB10.out.keep p.k (fun e => by have := HA8.out _ e; have := HZ10.out; omega)).2.1
      have s2 : ∀ p : KA (fun j => (Value.slice a16 q c16).ownBlock = some j) Y, p.val.cell? ⟨z10, 2, none⟩ = some (.slice ao2 64 co2) := fun p => (HB10.out.keep p.k (fun e => by have := HA8.out _ e; have := HZ10.out; omega)).2.2.1
      refine wp_region_walk [(false, 0), (false, 1), (true, 2), (true, 3), (true, 5), (true, 6), (false, 4), (false, 7), (false, 8), (false, 9), (true, 10), (true, 11), (true, 12), (true, 15), (true, 16), (false, 13), (false, 14), (false, 17), (false, 18), (false, 19), (true, 20), (false, 21), (false, 22), (false, 23), (false, 24), (false, 25), (false, 26), (true, 27), (false, 28), (false, 29), (false, 30), (false, 31), (false, 32), (false, 33)] (inKA (fun j => (Value.slice a16 q c16).ownBlock = some j) Y) (by kernel_rfl) (by kernel_rfl) ?_
      have HKD : Hid (Keep (fun _ => False) Y Y.drew) := Lib.hid (Keep.refl _ Y).drew
      have KAD : Hid (Keep (fun j => (Value.slice a16 q c16).ownBlock = some j) Y Y.drew) := Lib.hid (HKD.out.mono (fun _ h => h.elim))
      refine walkW_do rfl (inKA.of KAD.out) (fun K hK => ?_); go_simp; refine hK _ _ ?_; clear hK K
      refine walkW_do rfl (inKA.of KAD.out) (fun K hK => ?_); go_simp; refine hK _ _ ?_; clear hK K
      refine walkW_read rfl (fun K hK => ?_); go_simp; refine hK _ ?_; clear hK K
      refine walkW_read rfl (fun K hK => ?_); go_simp; refine hK _ ?_; clear hK K
      refine walkW_read rfl (fun K hK => ?_); go_simp; refine hK _ ?_; clear hK K
      refine walkW_read rfl (fun K hK => ?_); go_simp; refine hK _ ?_; clear hK K
      have HAC := Lib.hid (apply_any _ _ 1 lx ox tl Y.drew (HR8.out.kept HKD.out) HLX.out (HMM.out.kept HKD.out) (fun m hm => HSL.out m (HTM.out m hm)))
      rw [HKN.out] at HAC
      generalize Y.drew = Y0 at *
      refine walkW_do rfl (inKA.of KAD.out) (fun K hK => ?_)
      go_simp
      with_reducible refine HAC.out.mono ?_
      rintro e Y1 ⟨a67, c67, rfl, h67, k67⟩
      rw [HLYO.out] at h67 ⊢
      refine hK _ _ ?_; clear hK K HAC
      have HYB : Hid (∀ x ∈ oy, I64 x) := Lib.hid HOY.out.obd
      have h67' : Its Y1 (.slice a67 64 c67) oy := by
        have h := its_owns (lo := Y0.heap.size) (v := .slice a67 64 c67) (xs := oy) (by rw [HLYO.out]; exact h67) (by rw [HLYO.out]; decide) HYB.out
        exact h
      have HK1 := Lib.hid (HKD.out.trans k67)
      have KA1 : Hid (Keep (fun j => (Value.slice a16 q c16).ownBlock = some j) Y Y1) := Lib.hid (HK1.out.mono (fun _ h => h.elim))
      have HSC := Lib.hid (sameInts_any _ _ oy oy Y1 h67' (HR10.out.kept HK1.out).its)
      rw [decide_eq_true (rfl : oy = oy)] at HSC
      clear h67 h67' k67
      refine walkW_do rfl (inKA.of KA1.out) (fun K hK => ?_)
      go_simp
      with_reducible refine HSC.out.mono ?_
      rintro e Y2 ⟨rfl, k68⟩
      refine hK _ _ ?_; clear hK K HSC
      have HK2 := Lib.hid (HK1.out.trans k68)
      have KA2 : Hid (Keep (fun j => (Value.slice a16 q c16).ownBlock = some j) Y Y2) := Lib.hid (HK2.out.mono (fun _ h => h.elim))
      clear k68 HK1 KA1 HKD KAD
      refine walkW_do rfl (inKA.of KA2.out) (fun K hK => ?_); go_simp; refine hK _ _ ?_; clear hK K
      refine walkW_do rfl (inKA.of KA2.out) (fun K hK => ?_); go_simp; refine hK _ _ ?_; clear hK K
      refine walkW_read rfl (fun K hK => ?_); go_simp; refine hK _ ?_; clear hK K
      refine walkW_read rfl (fun K hK => ?_); go_simp; refine hK _ ?_; clear hK K
      refine walkW_read rfl (fun K hK => ?_); go_simp; refine hK _ ?_; clear hK K
      refine walkW_read rfl (fun K hK => ?_); go_simp; refine hK _ ?_; clear hK K
      refine walkW_read rfl (fun K hK => ?_); go_simp; refine hK _ ?_; clear hK K
      obtain ⟨v76, Y3, hr3, ho3, hk3⟩ := app_mvs0 Y2 55 B (.slice a16 q c16) (.slice (some ⟨g, 0, none⟩) q cq) tl ms (by rw [HTN.out]; exact ownsRow_keep HO2.out HK2.out (fun _ _ h => h)) (HML.out.kept HK2.out) (by have := HTN.out; have := HQ.out; omega) (by have := HBB.out; have := HK2.out.size; omega)
      have KA3 : Hid (Keep (fun j => (Value.slice a16 q c16).ownBlock = some j) Y Y3) := Lib.hid (KA2.out.trans hk3)
      have HO3 := Lib.hid ho3
      have HR3 := Lib.hid hr3
      clear hr3 ho3 hk3
      refine walkW_do rfl (inKA.of KA2.out) (fun K hK => ?_)
      rw [if_pos (by first | rfl | simp [Region.wanted, yielded])]
      refine wp_app (.tmp 74) (.tmp 75) 55 rfl rfl rfl HR3.out (hK _ _ ?_); clear hK K HR3
      have HR8c := Lib.hid (HR8.out.keep KA3.out (fun j hj e => by have := HA8.out _ e; have := HL8.out.1 j hj; omega) (fun j hj e => by have := HA8.out _ e; have := HL8.out.2 j hj; omega))
      have HR10c := Lib.hid (HR10.out.keep KA3.out (fun j hj e => by have := HA8.out _ e; have := HL10.out.1 j hj; omega) (fun j hj e => by have := HA8.out _ e; have := HL10.out.2 j hj; omega))
      have HR12c := Lib.hid (HR12.out.keep KA3.out (fun j hj e => by have := HA8.out _ e; have := HL12.out.1 j hj; omega) (fun j hj e => by have := HA8.out _ e; have := HL12.out.2 j hj; omega))
      obtain ⟨a76, c76, rfl⟩ := own_form HO3.out
      have HTM3 : Hid (∀ m ∈ tl ++ ms, m ∈ ms) := Lib.hid (fun m hm => by
        rcases List.mem_append.1 hm with h | h
        · exact HTM.out m h
        · exact h)
      have HM3 := Lib.hid (mvs_owns HO3.out (by have := HTN.out; have := HQ.out; rw [List.length_append]; omega) (fun m hm => HBD.out m (HTM3.out m hm)))
      obtain ⟨n76, hn76⟩ : ∃ n, (tl ++ ms).length = n := ⟨_, rfl⟩
      rw [hn76] at HM3 ⊢
      clear hn76
      have HAC := Lib.hid (apply_any _ _ 1 lx ox (tl ++ ms) Y3 HR8c.out HLX.out HM3.out (fun m hm => HSL.out m (HTM3.out m hm)))
      rw [HDN.out] at HAC
      refine walkW_do rfl (inKA.of KA3.out) (fun K hK => ?_)
      go_simp
      with_reducible refine HAC.out.mono ?_
      rintro e Y4 ⟨a77, c77, rfl, h77, k77⟩
      rw [HLYO.out] at h77 ⊢
      refine hK _ _ ?_; clear hK K HAC
      have h77' : Its Y4 (.slice a77 64 c77) oy := by
        have h := its_owns (lo := Y3.heap.size) (v := .slice a77 64 c77) (xs := oy) (by rw [HLYO.out]; exact h77) (by rw [HLYO.out]; decide) HYB.out
        exact h
      have HK4 := Lib.hid k77
      have KA4 : Hid (Keep (fun j => (Value.slice a16 q c16).ownBlock = some j) Y Y4) := Lib.hid (KA3.out.trans (k77.mono (fun _ h => h.elim)))
      have HSC := Lib.hid (sameInts_any _ _ oy oy Y4 h77' (HR10c.out.kept k77).its)
      rw [decide_eq_true (rfl : oy = oy)] at HSC
      clear h77 h77' k77
      refine walkW_do rfl (inKA.of KA4.out) (fun K hK => ?_)
      go_simp
      with_reducible refine HSC.out.mono ?_
      rintro e Y5 ⟨rfl, k80⟩
      refine hK _ _ ?_; clear hK K HSC
      have HK5 := Lib.hid (HK4.out.trans k80)
      have KA5 : Hid (Keep (fun j => (Value.slice a16 q c16).ownBlock = some j) Y Y5) := Lib.hid (KA4.out.trans (k80.mono (fun _ h => h.elim)))
      clear k80
      refine walkW_do rfl (inKA.of KA5.out) (fun K hK => ?_); go_simp; refine hK _ _ ?_; clear hK K
      refine walkW_do rfl (inKA.of KA5.out) (fun K hK => ?_); go_simp; refine hK _ _ ?_; clear hK K
      refine walkW_read rfl (fun K hK => ?_); go_simp; refine hK _ ?_; clear hK K
      obtain ⟨u0, u1, u2, -⟩ := HB12.out.keep KA5.out (fun e => by have := HA8.out _ e; have := HZ12.out; omega)
      refine walkW_do rfl (inKA.of KA5.out) (fun K hK => ?_); go_simp; refine hK _ _ ?_; clear hK K
      clear u0 u1 u2
      have HMC := Lib.hid (moves_any _ _ _ _ _ _ _ _ Y5 (HR8c.out.kept HK5.out) (HR12c.out.kept HK5.out) HLX.out HLX.out)
      rw [movesK_self] at HMC
      refine walkW_do rfl (inKA.of KA5.out) (fun K hK => ?_)
      go_simp
      with_reducible refine HMC.out.mono ?_
      rintro e Y6 ⟨a85, c85, rfl, -, k85⟩
      rw [List.length_nil]
      refine hK _ _ ?_; clear hK K HMC
      have HK6 := Lib.hid (HK5.out.trans k85)
      have KA6 : Hid (Keep (fun j => (Value.slice a16 q c16).ownBlock = some j) Y Y6) := Lib.hid (KA5.out.trans (k85.mono (fun _ h => h.elim)))
      clear k85
      refine walkW_do rfl (inKA.of KA6.out) (fun K hK => ?_); go_simp; refine hK _ _ ?_; clear hK K
      refine walkW_do rfl (inKA.of KA6.out) (fun K hK => ?_); go_simp; refine hK _ _ ?_; clear hK K
      refine walkW_do rfl (inKA.of KA6.out) (fun K hK => ?_); go_simp; refine hK _ _ ?_; clear hK K
      refine walkW_do rfl (inKA.of KA6.out) (fun K hK => ?_); go_simp; refine hK _ _ ?_; clear hK K
      refine walkW_read rfl (fun K hK => ?_); go_simp; refine hK _ ?_; clear hK K
      obtain ⟨u0, u1, u2, -⟩ := HB10.out.keep KA6.out (fun e => by have := HA8.out _ e; have := HZ10.out; omega)
      refine walkW_do rfl (inKA.of KA6.out) (fun K hK => ?_); go_simp; refine hK _ _ ?_; clear hK K
      clear u0 u1 u2
      have HMC := Lib.hid (moves_any _ _ _ _ _ _ _ _ Y6 (HR10c.out.kept HK6.out) (HR10c.out.kept HK6.out) HLYO.out HLYO.out)
      rw [movesK_self] at HMC
      refine walkW_do rfl (inKA.of KA6.out) (fun K hK => ?_)
      go_simp
      with_reducible refine HMC.out.mono ?_
      rintro e Y7 ⟨a92, c92, rfl, -, k92⟩
      rw [List.length_nil]
      refine hK _ _ ?_; clear hK K HMC
      have KA7 : Hid (Keep (fun j => (Value.slice a16 q c16).ownBlock = some j) Y Y7) := Lib.hid (KA6.out.trans (k92.mono (fun _ h => h.elim)))
      clear k92
      refine walkW_do rfl (inKA.of KA7.out) (fun K hK => ?_); go_simp; refine hK _ _ ?_; clear hK K
      refine walkW_do rfl (inKA.of KA7.out) (fun K hK => ?_); go_simp; refine hK _ _ ?_; clear hK K
      refine walkW_do rfl (inKA.of KA7.out) (fun K hK => ?_); go_simp; refine hK _ _ ?_; clear hK K
      refine walkW_do rfl (inKA.of KA7.out) (fun K hK => ?_); go_simp; refine hK _ _ ?_; clear hK K
      refine ⟨inKA.of KA7.out, ?_⟩
      clear r0 r1 r2 s0 s1 s2
      have HKE : Hid (Keep (fun _ => False) w Y7) := Lib.hid ((KV.out.trans HK3.out).trans' KA7.out (fun j e => .inr (by have := HA8.out _ e; have := KV.out.size; omega)))
      go_wp2_with fail
      go_ret
      exact ⟨rfl, HKE.out⟩
end Go.Proofs.YtplkmbfeeegaiaaDoor
