/-
  ReshardFew: the walk.
-/
import Derived.Test.YtplkmbfeeegaiaaDoorM5
namespace Go.Proofs.YtplkmbfeeegaiaaDoor
open Go.RowKit Go.Shelf

/-- What the free operations of ReshardFew's region answer. -/
def fewS (B : Nat) (rv : Value) (l : List Mb) (ow : List Int) (n : Nat) (t : Nat) (v : Value) (W : World) : Prop :=
  (t = 36 → v = rv) ∧ (t = 38 → ∃ a c, v = .slice a n c ∧ Mbs W v l) ∧
  (t = 39 ∨ t = 35 → ∃ a c b d, v = .tuple #[.agg #[.int .i64 2, .slice a n c, .slice b 64 d], .int .i64 0] ∧ Rng W (.agg #[.int .i64 2, .slice a n c, .slice b 64 d]) 2 l ow ∧ (∀ j, (Value.slice a n c).ownBlock = some j → B ≤ j) ∧ ∀ j, (Value.slice b 64 d).ownBlock = some j → B ≤ j) ∧
  (t = 40 → ∃ a c b d, v = .agg #[.int .i64 2, .slice a n c, .slice b 64 d] ∧ Rng W v 2 l ow) ∧ (t = 41 → v = .int .i64 0)
theorem fewS_keep {B : Nat} {rv : Value} {l : List Mb} {ow : List Int} {n : Nat} (t : Nat) (v : Value) (w w' : World) (h : fewS B rv l ow n t v w) (k : Keep (fun _ => False) w w') : fewS B rv l ow n t v w' := by
  obtain ⟨h1, h2, h3, h4, h5⟩ := h
  refine ⟨h1, fun e => ?_, fun e => ?_, fun e => ?_, h5⟩
  · obtain ⟨a, c, q, r⟩ := h2 e
    exact ⟨a, c, q, r.kept k⟩
  · obtain ⟨a, c, b, d, q, r, f⟩ := h3 e
    exact ⟨a, c, b, d, q, r.kept k, f⟩
  · obtain ⟨a, c, b, d, q, r⟩ := h4 e
    exact ⟨a, c, b, d, q, r.kept k⟩
set_option maxRecDepth 100000 in
set_option maxHeartbeats 8000000 in
theorem few_any (vx : Value) (xs : List Int) (vy : Value) (ys : List Int) (vz : Value) (zs : List Int) (w : World) (hx : Its w vx xs) (hy : Its w vy ys) (hz : Its w vz zs) (hT : Tab w) : Calls Tryd.prog 10 #[vx, vy, vz] w fun e w' => e = .returned (.bool true) ∧ Keep (fun _ => False) w w' := by
  have HX := Lib.hid hx
  have HY := Lib.hid hy
  have HZ := Lib.hid hz
  have HT := Lib.hid hT
  have HVX := Lib.hid (mem13_vl xs)
  have HVY := Lib.hid (mem13_vl ys)
  have HVZ := Lib.hid (mem13_vl zs)
  clear hx hy hz hT
  go_enter Tryd.func10, Tryd.ntmps10
  go_wp2_with fail
  with_reducible refine (sane13_any w HT.out).mono ?_
  rintro e W1 ⟨rfl, k1⟩
  have KV := Lib.hid k1
  clear k1
  go_wp2_with fail
  with_reducible refine (members_mbs _ xs (HX.out.kept KV.out)).mono ?_
  rintro e W2 ⟨a2, c2, rfl, hm, k2⟩
  replace KV := Lib.hid (KV.out.trans k2)
  have HM := Lib.hid hm
  clear hm k2
  generalize hlx : mem13 xs = lx at *
  clear hlx
  obtain ⟨nx, hnx⟩ : ∃ n, lx.length = n := ⟨_, rfl⟩
  have hnx0 : 0 < nx := by rw [← hnx]; exact List.length_pos_iff.2 HVX.out.1.ne
  have HOX := Lib.hid (ok_new PN QS HVX.out.1 (ep := 1) (by decide))
  have HNX := Lib.hid hnx
  rw [hnx] at HM ⊢
  go_wp2_with fail
  with_reducible refine (good_new _ lx HM.out HVX.out.1 (HT.out.kept KV.out)).mono ?_
  rintro e W3 ⟨am, cm, ao, co, rfl, hr, k⟩
  rw [hnx] at hr ⊢
  clear hnx HM
  generalize ownersL PN QS lx = ox at *
  have ka : Keep (fun _ => False) W3 (W3.alloc (.cells #[.int .i64 1, .slice am nx cm, .slice ao 64 co] 31)) := (Keep.refl _ W3).alloc _
  have HB8 := Lib.hid (Box3.new W3 (.int .i64 1) (.slice am nx cm) (.slice ao 64 co) 31)
  have HR8 := Lib.hid (hr.kept ka)
  have HSZ : Hid (w.heap.size ≤ W3.heap.size) := Lib.hid (KV.out.trans k).size
  replace KV := Lib.hid (KV.out.trans (k.trans ka))
  clear hr k ka
  go_upto_region 3 with (fail)
  generalize W3.alloc (.cells #[.int .i64 1, .slice am nx cm, .slice ao 64 co] 31) = V3 at *
  generalize W3.heap.size = z8 at *
  have hnz : ¬ (nx : Int) = 0 := by omega
  obtain ⟨x0, x1, x2, -⟩ := HB8.out
  go_upto_region 5 with (fail)
  clear x0 x1 x2
  have r0 : ∀ p : KA (fun _ => False) V3, p.val.cell? ⟨z8, 0, none⟩ = some (.int .i64 1) := fun p => (HB8.out.kept p.k).1
  have r1 : ∀ p : KA (fun _ => False) V3, p.val.cell? ⟨z8, 1, none⟩ = some (.slice am nx cm) := fun p => (HB8.out.kept p.k).2.1
  have r2 : ∀ p : KA (fun _ => False) V3, p.val.cell? ⟨z8, 2, none⟩ = some (.slice ao 64 co) := fun p => (HB8.out.kept p.k).2.2.1
  generalize hly : mem13 ys = ly at *
  have HLY := Lib.hid hly
  clear hly
  obtain ⟨ny, hny⟩ : ∃ n, ly.length = n := ⟨_, rfl⟩
  have HNY := Lib.hid hny
  clear hny
  have HOY := Lib.hid (ok_change PN QS HOX.out HVY.out.1 (by decide))
  refine wp_region_free2 [1] [⟨0, 36, []⟩, ⟨2, 38, []⟩, ⟨3, 39, [36, 38]⟩, ⟨4, 35, [39]⟩] [(true, 5), (true, 6), (false, 7), (false, 8)] (inKA (fun j => j = z8) V3) (inKA (fun _ => False) V3) (fun w hw => by obtain ⟨p, rfl⟩ := hw; exact inKA.of (p.k.mono (fun _ h => h.elim))) (fewS V3.heap.size (.agg #[.int .i64 1, .slice am nx cm, .slice ao 64 co]) ly (changeL PN QS ly ox) ny) (Keep (fun _ => False)) (by kernel_rfl) (by kernel_rfl) (inKA.of (Keep.refl _ V3).drew) fewS_keep (fun w w' hw hk => by obtain ⟨p, rfl⟩ := hw; exact inKA.of (p.k.trans hk)) ?_
  iterate 1 (refine headW_step rfl (fun K hK => ?_); go_simp; refine hK _ ?_; clear hK K)
  refine ⟨?_, ?_, ?_⟩
  · intro h hh
    simp only [List.mem_cons, List.not_mem_nil, or_false] at hh
    rcases hh with rfl | rfl | rfl | rfl <;> simp
  · refine freeW_step rfl (fun vs W hC hS K hK => ?_) (freeW_step rfl (fun vs W hC hS K hK => ?_) (freeW_step rfl (fun vs W hC hS K hK => ?_) (freeW_step rfl (fun vs W hC hS K hK => ?_) trivial)))
    · obtain ⟨p, rfl⟩ := hC
      simp only [putL, List.foldl]
      have a0 := r0 p
      have a1 := r1 p
      have a2 := r2 p
      go_simp
      exact hK _ _ ⟨fun _ => rfl, fun e => absurd e (by decide), fun e => absurd e (by decide), fun e => absurd e (by decide), fun e => absurd e (by decide)⟩ (Keep.refl _ _)
    · obtain ⟨p, rfl⟩ := hC
      simp only [putL, List.foldl]
      have HMB := Lib.hid (members_mbs _ ys (HY.out.kept (KV.out.trans p.k)))
      go_simp
      refine HMB.out.mono ?_
      rintro e W2 ⟨a, c, rfl, hm, kk⟩
      rw [HLY.out, HNY.out] at hm ⊢
      exact hK _ _ ⟨fun e => absurd e (by decide), fun _ => ⟨a, c, rfl, hm⟩, fun e => absurd e (by decide), fun e => absurd e (by decide), fun e => absurd e (by decide)⟩ kk
    · obtain ⟨p, rfl⟩ := hC
      have e1 := (hS 36 (by simp)).1 rfl
      obtain ⟨a, c, e2, hm⟩ := (hS 38 (by simp)).2.1 rfl
      simp only [putL, List.foldl]
      generalize vs 36 = v36 at *
      generalize vs 38 = v38 at *
      subst e1 e2
      have hch := fresh_change _ _ 1 lx ly ox (HR8.out.kept p.k) HOX.out (by decide) hm HVY.out.1 (HT.out.kept (KV.out.trans p.k))
      rw [show (1 : Int) + 1 = 2 from rfl] at hch
      have HCH := Lib.hid hch
      clear hch
      go_simp
      refine HCH.out.mono ?_
      rintro e W2 ⟨am2, cm2, ao2, co2, rfl, hr, hf, kk⟩
      rw [HNY.out] at hr hf ⊢
      have hsz := p.k.size
      exact hK _ _ ⟨fun e => absurd e (by decide), fun e => absurd e (by decide), fun _ => ⟨am2, cm2, ao2, co2, rfl, hr, fun j hj => Nat.le_trans hsz (hf.1 j hj), fun j hj => Nat.le_trans hsz (hf.2 j hj)⟩, fun e => absurd e (by decide), fun e => absurd e (by decide)⟩ kk
    · obtain ⟨am2, cm2, ao2, co2, e1, hr, hf⟩ := (hS 39 (by simp)).2.2.1 (.inl rfl)
      simp only [putL, List.foldl]
      generalize vs 39 = v39 at *
      subst e1
      go_simp
      exact hK _ _ ⟨fun e => absurd e (by decide), fun e => absurd e (by decide), fun _ => ⟨am2, cm2, ao2, co2, rfl, hr, hf⟩, fun e => absurd e (by decide), fun e => absurd e (by decide)⟩ (Keep.refl _ W)
  · intro vs W hC hS
    obtain ⟨p, rfl⟩ := hC
    have e1 := (hS ⟨0, 36, []⟩ (by simp)).1 rfl
    obtain ⟨a38, c38, e2, -⟩ := (hS ⟨2, 38, []⟩ (by simp)).2.1 rfl
    obtain ⟨a39, c39, b39, d39, e3, -⟩ := (hS ⟨3, 39, [36, 38]⟩ (by simp)).2.2.1 (.inl rfl)
    obtain ⟨am2, cm2, ao2, co2, e4, hr, hf1, hf2⟩ := (hS ⟨4, 35, [39]⟩ (by simp)).2.2.1 (.inr rfl)
    simp only [] at e1 e2 e3 e4
    simp only [List.map, putL, List.foldl]
    generalize vs 36 = v36 at *
    generalize vs 38 = v38 at *
    generalize vs 39 = v39 at *
    generalize vs 35 = v35 at *
    subst e1 e2 e3 e4
    have hz8 := HB8.out.lt
    have HBP := Lib.hid (HB8.out.kept p.k)
    have KP := Lib.hid p.k
    have HRP := Lib.hid hr
    have HF1 : Hid (∀ j, (Value.slice am2 ny cm2).ownBlock = some j → j ≠ z8) := Lib.hid (fun j hj e => by have := hf1 j hj; omega)
    have HF2 : Hid (∀ j, (Value.slice ao2 64 co2).ownBlock = some j → j ≠ z8) := Lib.hid (fun j hj e => by have := hf2 j hj; omega)
    clear hS hr hf1 hf2 r0 r1 r2 hz8
    generalize p.val = V at *
    iterate 2 (refine walkW_read rfl (fun K hK => ?_); go_simp; refine hK _ ?_; clear hK K)
    obtain ⟨y0, y1, y2, yf⟩ := HBP.out
    refine walkW_do rfl (inKA.of (KP.out.mono (fun _ h => h.elim))) (fun K hK => ?_)
    go_simp
    refine hK _ _ ?_; clear hK K
    clear y0 y1 y2 yf
    have kq : Keep (fun j => j = z8) V (((V.setCell ⟨z8, 0, none⟩ (.int .i64 2)).setCell ⟨z8, 1, none⟩ (.slice am2 ny cm2)).setCell ⟨z8, 2, none⟩ (.slice ao2 64 co2)) := (((Keep.refl (fun j => j = z8) V).setCell (p := ⟨z8, 0, none⟩) _ (.inl rfl)).setCell (p := ⟨z8, 1, none⟩) _ (.inl rfl)).setCell (p := ⟨z8, 2, none⟩) _ (.inl rfl)
    have HB9 := Lib.hid (((HBP.out.set0 (.int .i64 2)).set1 (.slice am2 ny cm2)).set2 (.slice ao2 64 co2))
    have HR9 := Lib.hid (HRP.out.keep kq (fun j hj e => HF1.out j hj e) (fun j hj e => HF2.out j hj e))
    have KP9 : Hid (Keep (fun j => j = z8) V3 (((V.setCell ⟨z8, 0, none⟩ (.int .i64 2)).setCell ⟨z8, 1, none⟩ (.slice am2 ny cm2)).setCell ⟨z8, 2, none⟩ (.slice ao2 64 co2))) := Lib.hid ((KP.out.mono (fun _ h => h.elim)).trans kq)
    replace KV := Lib.hid ((KV.out.trans KP.out).trans' kq (fun j e => .inr (by have h5 : j = z8 := e; have := HSZ.out; omega)))
    clear kq HBP HRP KP HB8 HR8
    generalize ((V.setCell ⟨z8, 0, none⟩ (.int .i64 2)).setCell ⟨z8, 1, none⟩ (.slice am2 ny cm2)).setCell ⟨z8, 2, none⟩ (.slice ao2 64 co2) = V5 at *
    refine walkW_do rfl (inKA.of KP9.out) (fun K hK => ?_)
    go_simp
    refine hK _ _ ?_; clear hK K
    refine ⟨inKA.of KP9.out, ?_⟩
    go_upto_region 8 with (fail)
    go_wp2_with fail
    with_reducible refine (members_mbs _ zs (HZ.out.kept KV.out)).mono ?_
    rintro e W6 ⟨a6, c6, rfl, hm, k6⟩
    generalize hlz : mem13 zs = lz at *
    clear hlz
    obtain ⟨nz, hnz2⟩ : ∃ n, lz.length = n := ⟨_, rfl⟩
    have HNZ := Lib.hid hnz2
    rw [hnz2] at hm ⊢
    clear hnz2
    have HML := Lib.hid hm
    have HB9' := Lib.hid (HB9.out.kept k6)
    have HR9' := Lib.hid (HR9.out.kept k6)
    replace KV := Lib.hid (KV.out.trans k6)
    clear hm k6 HB9 HR9
    generalize changeL PN QS ly ox = oy at *
    obtain ⟨x0, x1, x2, -⟩ := HB9'.out
    go_wp2_with fail
    clear x0 x1 x2
    have hch := good_change _ _ 2 ly lz oy HR9'.out HOY.out (by decide) HML.out HVZ.out.1 (HT.out.kept KV.out)
    rw [show (2 : Int) + 1 = 3 from rfl] at hch
    with_reducible refine hch.mono ?_
    clear hch
    rintro e W7 ⟨am3, cm3, ao3, co3, rfl, hr, k⟩
    rw [HNZ.out] at hr ⊢
    have ka : Keep (fun _ => False) W7 (W7.alloc (.cells #[.int .i64 3, .slice am3 nz cm3, .slice ao3 64 co3] 31)) := (Keep.refl _ W7).alloc _
    have HB11 := Lib.hid (Box3.new W7 (.int .i64 3) (.slice am3 nz cm3) (.slice ao3 64 co3) 31)
    have HR11 := Lib.hid (hr.kept ka)
    have HB8 := Lib.hid (HB9'.out.kept (k.trans ka))
    have HR8 := Lib.hid (HR9'.out.kept (k.trans ka))
    replace HML := Lib.hid (HML.out.kept (k.trans ka))
    replace KV := Lib.hid (KV.out.trans (k.trans ka))
    have HO11 := Lib.hid (ok_change PN QS HOY.out HVZ.out.1 (by decide))
    clear hr k ka HB9' HR9'
    go_upto_region 10 with (fail)
    generalize W7.alloc (.cells #[.int .i64 3, .slice am3 nz cm3, .slice ao3 64 co3] 31) = V7 at *
    generalize W7.heap.size = z11 at *
    obtain ⟨x0, x1, x2, -⟩ := HB8.out
    obtain ⟨y0, y1, y2, -⟩ := HB11.out
    go_upto_region 14 with (fail)
    clear x0 x1 x2 y0 y1 y2
    have HOYL : Hid (oy.length = 64) := Lib.hid HOY.out.2.2.2.1
    have HZK := Lib.hid (kept_min PN QS HOY.out HVZ.out.1)
    have HSUM := Lib.hid (must_sum PN QS HVZ.out.1 HOY.out.2.2.2.1 (okRing_nodes HOY.out))
    generalize changeL PN QS lz oy = oz at *
    have HOZL : Hid (oz.length = 64) := Lib.hid HO11.out.2.2.2.1
    have HLD : Hid (∀ W q, Keep (fun _ => False) V7 W → Calls Tryd.prog 29 #[.agg #[.int .i64 2, .slice am2 ny cm2, .slice ao2 64 co2], .int .i64 q] W fun e w' => e = .returned (.int .i64 (cnt oy q)) ∧ Keep (fun _ => False) W w') := Lib.hid (fun W q kk => load_any _ _ _ _ _ (HR8.out.kept kk) q)
    have HLM : Hid (∀ W q, I64 q → Keep (fun _ => False) V7 W → Calls Tryd.prog 21 #[.slice a6 nz c6, .int .i64 q] W fun e w' => e = .returned (.int .i64 (limitL lz q)) ∧ Keep (fun _ => False) W w') := Lib.hid (fun W q hq kk => limit_any _ lz W (HML.out.kept kk) q hq)
    have HMV : Hid (∀ W, Keep (fun _ => False) V7 W → Calls Tryd.prog 44 #[.agg #[.int .i64 2, .slice am2 ny cm2, .slice ao2 64 co2], .agg #[.int .i64 3, .slice am3 nz cm3, .slice ao3 64 co3]] W (MvPost (movesK oy oz 64) W)) := Lib.hid (fun W kk => moves_any _ _ _ _ _ _ _ _ _ (HR8.out.kept kk) (HR11.out.kept kk) HOYL.out HOZL.out)
    have hnd := HML.out.nodes (List.length_pos_iff.2 HVZ.out.1.ne)
    obtain ⟨lb, lo, rfl, -, hlc, hlcell⟩ := hnd
    have hoy := HR8.out.owners HOYL.out
    obtain ⟨ob, oo, rfl, -, hoc, hocell⟩ := hoy
    have hoz := HR11.out.owners HOZL.out
    obtain ⟨pb, po, rfl, -, hpc, hpcell⟩ := hoz
    have HLC := Lib.hid hlcell
    have HOC := Lib.hid hocell
    have HPC := Lib.hid hpcell
    have HFB : Hid (∀ n : Nat, 0 ≤ cnt oy n - keptC oy oz n 64 ∧ cnt oy n - keptC oy oz n 64 ≤ 64) := Lib.hid (fun n => by
      have h1 := HZK.out n
      have h2 := cnt_nn oy n
      have h3 := cnt_len oy n
      have h4 := HOYL.out
      have h5 := limitL_nn lz n
      omega)
    clear hlcell hocell hpcell
    have hnz8 : nz ≤ 8 := by rw [← HNZ.out]; exact HVZ.out.2
    go_loopg [13, 14] 24 (fun gh v13 v wr => ∃ k : Nat, gh + k = 24 ∧ v = .int .i64 k ∧ v13 = .int .i64 (sumK (fun n : Nat => cnt oy n - keptC oy oz n 64) k) ∧ Keep (fun _ => False) V7 wr)
    case atStart => exact ⟨0, by omega, rfl, rfl, Keep.refl _ _⟩
    case round =>
      obtain ⟨k, hk, rfl, rfl, hkeep⟩ := hrel
      have HK := Lib.hid hkeep
      clear hkeep
      have hsb := sumK_bd HFB.out k
      by_cases hlt : k < 24
      · have hkz : (k : Int) < 24 := by omega
        have hk0 : (0 : Int) ≤ (k : Int) := by omega
        have HSN : Hid (sumK (fun n : Nat => cnt oy n - keptC oy oz n 64) (k + 1) = sumK (fun n : Nat => cnt oy n - keptC oy oz n 64) k + (cnt oy k - keptC oy oz k 64)) := Lib.hid rfl
        have hfb := HFB.out k
        have hzk := HZK.out k
        have hcb := cnt_nn oy k
        have hcl := cnt_len oy k
        rw [HOYL.out] at hcl
        have HLDK := Lib.hid (HLD.out _ k HK.out)
        have hll := limitL_nn lz k
        generalize sumK (fun n : Nat => cnt oy n - keptC oy oz n 64) k = s0 at *
        obtain ⟨x0, x1, x2, -⟩ := HB8.out.kept HK.out
        go_wp2_with fail
        clear x0 x1 x2
        with_reducible refine HLDK.out.mono ?_
        rintro e Y1 ⟨rfl, kx⟩
        have HK1 := Lib.hid (HK.out.trans kx)
        clear kx HLDK
        generalize cnt oy k = had at *
        go_wp2_with fail
        go_loopg [16, 17] nz (fun gh v16 v wr => ∃ i : Nat, gh + i = nz ∧ v = .int .i64 i ∧ v16 = .int .i64 (limK lz k i) ∧ Keep (fun _ => False) V7 wr)
        case atStart => exact ⟨0, by omega, rfl, by rw [limK_zero], HK1.out⟩
        case round =>
          obtain ⟨i, hi, rfl, rfl, hkeep⟩ := hrel
          have HKI := Lib.hid hkeep
          clear hkeep
          have hlk := limK_bd lz k i
          by_cases hil : i < nz
          · obtain ⟨m, hm⟩ : ∃ m, lz[i]? = some m := ⟨_, List.getElem?_eq_getElem (by rw [HNZ.out]; exact hil)⟩
            have c0 := HKI.out.cell (HLC.out i m hm) (fun h => h)
            have HM := Lib.hid hm
            have hiz : (i : Int) < (nz : Int) := by omega
            have hi0 : (0 : Int) ≤ (i : Int) := by omega
            clear hm
            by_cases hmn : m.node = k
            · have HHIT := Lib.hid (limK_hit HM.out hmn)
              have hbe : (m.node == (k : Int)) = true := by simpa using hmn
              have HLMK := Lib.hid (HLM.out _ k (by unfold I64; omega) HKI.out)
              rw [hmn] at c0
              have hbk : ((k : Int) == (k : Int)) = true := by simp
              clear hbe hmn
              generalize limK lz k i = l0 at *
              go_wp2_with fail
              clear c0
              with_reducible refine HLMK.out.mono ?_
              rintro e Y2 ⟨rfl, kx⟩
              have HK2 := Lib.hid (HKI.out.trans kx)
              clear kx HLMK
              go_wp2_with fail
              go_roundg (nz - (i + 1))
              case rel => exact ⟨i + 1, by omega, by go_num, by rw [HHIT.out], HK2.out⟩
              case measure => omega
            · have HMISS := Lib.hid (limK_miss HM.out hmn)
              have hbe : (m.node == (k : Int)) = false := by simpa using hmn
              generalize m.node = mn at *
              clear HM
              generalize limK lz k i = l0 at *
              go_wp2_with fail
              clear c0
              go_roundg (nz - (i + 1))
              case rel => exact ⟨i + 1, by omega, by go_num, by rw [HMISS.out], HKI.out⟩
              case measure => omega
          · obtain rfl : i = nz := by omega
            have HALL : Hid (limK lz k i = limitL lz k) := Lib.hid (limK_all (by rw [HNZ.out]; exact Nat.le_refl _))
            rw [HALL.out]
            clear HALL hlk
            generalize limitL lz k = lim at *
            go_wp2_with fail
            go_loopg [18, 19] 64 (fun gh v18 v wr => ∃ j : Nat, gh + j = 64 ∧ v = .int .i64 j ∧ v18 = .int .i64 (keptC oy oz k j) ∧ Keep (fun _ => False) V7 wr)
            case atStart => exact ⟨0, by omega, rfl, rfl, HKI.out⟩
            case round =>
              obtain ⟨j, hj, rfl, rfl, hkeep⟩ := hrel
              have HKJ := Lib.hid hkeep
              clear hkeep
              have hkc := keptC_bd oy oz k j
              by_cases hjl : j < 64
              · obtain ⟨x, hx⟩ : ∃ x, oy[j]? = some x := ⟨_, List.getElem?_eq_getElem (by rw [HOYL.out]; exact hjl)⟩
                obtain ⟨y, hy⟩ : ∃ y, oz[j]? = some y := ⟨_, List.getElem?_eq_getElem (by rw [HOZL.out]; exact hjl)⟩
                have cx := HKJ.out.cell (HOC.out j x hx) (fun h => h)
                have cy := HKJ.out.cell (HPC.out j y hy) (fun h => h)
                have HKS : Hid (keptC oy oz k (j + 1) = keptC oy oz k j + if x = k ∧ y = k then 1 else 0) := Lib.hid (by
                  rw [keptC_succ, List.getD_eq_getElem?_getD, List.getD_eq_getElem?_getD, hx, hy]; rfl)
                have hjz : (j : Int) < 64 := by omega
                have hj0 : (0 : Int) ≤ (j : Int) := by omega
                clear hx hy
                generalize keptC oy oz k j = k0 at *
                obtain ⟨x0, x1, x2, -⟩ := HB8.out.kept HKJ.out
                obtain ⟨y0, y1, y2, -⟩ := HB11.out.kept HKJ.out
                by_cases hxk : x = k
                · have hb : (x == (k : Int)) = true := by simpa using hxk
                  by_cases hyk : y = k
                  · have hb2 : (y == (k : Int)) = true := by simpa using hyk
                    rw [if_pos ⟨hxk, hyk⟩] at HKS
                    clear hxk hyk
                    go_wp2_with fail
                    clear cx cy x0 x1 x2 y0 y1 y2
                    go_roundg (64 - (j + 1))
                    case rel => exact ⟨j + 1, by omega, by go_num, by rw [HKS.out], HKJ.out⟩
                    case measure => omega
                  · have hb2 : (y == (k : Int)) = false := by simpa using hyk
                    rw [if_neg (fun h => hyk h.2), Int.add_zero] at HKS
                    clear hxk hyk
                    go_wp2_with fail
                    clear cx cy x0 x1 x2 y0 y1 y2
                    go_roundg (64 - (j + 1))
                    case rel => exact ⟨j + 1, by omega, by go_num, by rw [HKS.out], HKJ.out⟩
                    case measure => omega
                · have hb : (x == (k : Int)) = false := by simpa using hxk
                  rw [if_neg (fun h => hxk h.1), Int.add_zero] at HKS
                  clear hxk
                  go_wp2_with fail
                  clear cx cy x0 x1 x2 y0 y1 y2
                  go_roundg (64 - (j + 1))
                  case rel => exact ⟨j + 1, by omega, by go_num, by rw [HKS.out], HKJ.out⟩
                  case measure => omega
              · obtain rfl : j = 64 := by omega
                rw [hzk] at hfb HSN ⊢
                have HSN2 : Hid (sumK (fun n : Nat => cnt oy n - keptC oy oz n 64) (k + 1) = s0 + had - min had lim) := Lib.hid (by rw [HSN.out]; omega)
                clear HSN hzk hkc
                generalize hkp : min had lim = kp at *
                have hb : (kp != kp) = false := by simp
                go_wp2_with fail
                clear hkp hb
                go_roundg (24 - (k + 1))
                case rel => exact ⟨k + 1, by omega, by go_num, by rw [HSN2.out], HKJ.out⟩
                case measure => omega
      · obtain rfl : k = 24 := by omega
        rw [HSUM.out]
        clear hsb
        have HMVK := Lib.hid (HMV.out _ HK.out)
        generalize movesK oy oz 64 = ms at *
        generalize hq : ms.length = q at *
        obtain ⟨x0, x1, x2, -⟩ := HB8.out.kept HK.out
        obtain ⟨y0, y1, y2, -⟩ := HB11.out.kept HK.out
        go_wp2_with fail
        clear x0 x1 x2 y0 y1 y2
        with_reducible refine HMVK.out.mono ?_
        rintro e Y ⟨aq, cq, rfl, hown, kx⟩
        rw [hq] at hown ⊢
        have hb : ((q : Int) == (q : Int)) = true := by simp
        have HKE := Lib.hid (KV.out.trans (HK.out.trans kx))
        clear hown kx
        go_wp2_with fail
        go_ret
        exact ⟨rfl, HKE.out⟩
end Go.Proofs.YtplkmbfeeegaiaaDoor
