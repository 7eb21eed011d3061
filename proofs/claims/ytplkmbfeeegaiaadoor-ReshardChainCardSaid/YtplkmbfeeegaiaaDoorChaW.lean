/-
  ReshardChain: the walk.
-/
import Derived.Test.YtplkmbfeeegaiaaDoorM5
import Derived.Test.YtplkmbfeeegaiaaDoorM2
namespace Go.Proofs.YtplkmbfeeegaiaaDoor
open Go.RowKit Go.Shelf

set_option maxRecDepth 100000 in
set_option maxHeartbeats 8000000 in
theorem chain13_law (vx : Value) (xs : List Int) (vm : Value) (xss : List (List Int)) (key : ByteArray) (w : World) (hx : Its w vx xs) (hm : Itss w vm xss) (hkey : key.size ≤ maxLen) (hT : Tab w) : Calls Tryd.prog 13 #[vx, vm, .string key] w fun e w' => e = .returned (.bool true) ∧ Keep (fun _ => False) w w' := by
  have HX := Lib.hid hx
  have HT := Lib.hid hT
  have HVX := Lib.hid (mem13_vl xs)
  obtain ⟨hml, va, vc, vb, vo, rfl, hva, hvcell⟩ := hm
  have HVA := Lib.hid hva
  have HVC := Lib.hid hvcell
  obtain ⟨nm, hnm⟩ : ∃ n, xss.length = n := ⟨_, rfl⟩
  have HNM := Lib.hid hnm
  rw [hnm] at hml HVA ⊢
  unfold maxLen at hkey
  clear hx hT hva hvcell hnm
  go_enter Tryd.func13, Tryd.ntmps13
  go_wp2_with fail
  with_reducible refine (sane13_any w HT.out).mono ?_
  rintro e W1 ⟨rfl, k1⟩
  have KV := Lib.hid k1
  clear k1
  go_wp2_with fail
  have HKS0 : Hid ((key.extract 0 (min (key.size : Int) 100).toNat).size ≤ 100) := Lib.hid (by rw [ByteArray.size_extract]; omega)
  generalize key.extract 0 (min (key.size : Int) 100).toNat = ky at *
  with_reducible refine (members_mbs _ xs (HX.out.kept KV.out)).mono ?_
  rintro e W2 ⟨a2, c2, rfl, hm, k2⟩
  replace KV := Lib.hid (KV.out.trans k2)
  have HM := Lib.hid hm
  clear hm k2
  generalize hlx : mem13 xs = lx at *
  clear hlx
  obtain ⟨nx, hnx⟩ : ∃ n, lx.length = n := ⟨_, rfl⟩
  have HOX := Lib.hid (ok_new PN QS HVX.out.1 (ep := 1) (by decide))
  have HNX := Lib.hid hnx
  rw [hnx] at HM ⊢
  go_wp2_with fail
  with_reducible refine (good_new _ lx HM.out HVX.out.1 (HT.out.kept KV.out)).mono ?_
  rintro e W3 ⟨am, cm, ao, co, rfl, hr, k⟩
  rw [hnx] at hr ⊢
  clear hnx HM
  generalize ownersL PN QS lx = ox at *
  have ka : Keep (fun _ => False) W3 (W3.alloc (.cells #[.int .i64 1, .slice am nx cm, .slice ao 64 co] 31)) := (Keep.refl _ W3).alloc _
  have HB8 := Lib.hid (Box3.new W3 (.int .i64 1) (.slice am nx cm) (.slice ao 64 co) 31)
  have HR8 := Lib.hid (hr.kept ka)
  have HLOW := Lib.hid (hr.low (List.length_pos_iff.2 HVX.out.1.ne) (by rw [HOX.out.2.2.2.1]; decide))
  have HZW : Hid (w.heap.size ≤ W3.heap.size) := Lib.hid (by have := KV.out.size; have := k.size; omega)
  replace KV := Lib.hid (KV.out.trans (k.trans ka))
  clear hr k ka
  go_upto_region 4 with (fail)
  generalize W3.alloc (.cells #[.int .i64 1, .slice am nx cm, .slice ao 64 co] 31) = V3 at *
  generalize W3.heap.size = z8 at *
  go_upto_region 6 with (fail)
  obtain ⟨x0, x1, x2, -⟩ := HB8.out
  have HLX : Hid (ox.length = 64) := Lib.hid HOX.out.2.2.2.1
  have hsl0 := slotOf_lt ky
  go_upto_region 8 with (fail)
  clear x0 x1 x2
  have ka : Keep (fun _ => False) V3 (V3.alloc (.cells #[.int .i64 1, .slice am nx cm, .slice ao 64 co] 31)) := (Keep.refl _ V3).alloc _
  have HB10 := Lib.hid (Box3.new V3 (.int .i64 1) (.slice am nx cm) (.slice ao 64 co) 31)
  have HB8' := Lib.hid (HB8.out.kept ka)
  have HR8' := Lib.hid (HR8.out.kept ka)
  have HZ10 : Hid (z8 < V3.heap.size) := Lib.hid HB8.out.lt
  replace KV := Lib.hid (KV.out.trans ka)
  clear ka HB8 HR8
  generalize V3.alloc (.cells #[.int .i64 1, .slice am nx cm, .slice ao 64 co] 31) = V4 at *
  generalize V3.heap.size = z10 at *
  obtain ⟨x0, x1, x2, -⟩ := HB8'.out
  go_wp2_with fail
  clear x0 x1 x2
  have how := owner_any _ 1 lx ox V4 HR8'.out ky (by have := HKS0.out; omega) (HT.out.kept KV.out)
  rw [show ownerOf ox ky = ox.getD (slotOf ky) 0 by unfold ownerOf; rw [if_pos HLX.out]] at how
  generalize hov0 : ox.getD (slotOf ky) 0 = ov0 at how
  with_reducible refine how.mono ?_
  clear how
  have HOV0 := Lib.hid hov0
  clear hov0
  rintro e W9 ⟨rfl, k9⟩
  have HSLOT : Hid (∀ W, Tab W → Calls Tryd.prog 34 #[.string ky] W fun e w' => e = .returned (.int .i64 (slotOf ky : Nat)) ∧ W = w') := Lib.hid (fun W h => slot_any ky (by have := HKS0.out; omega) W h)
  have HOWN : Hid (∀ W v ep l o, o.length = 64 → Rng W v ep l o → Tab W → Calls Tryd.prog 27 #[v, .string ky] W fun e w' => e = .returned (.int .i64 (o.getD (slotOf ky) 0)) ∧ Keep (fun _ => False) W w') := Lib.hid (fun W v ep l o ho hr ht => by
    have h := owner_any v ep l o W hr ky (by have := HKS0.out; omega) ht
    rwa [show ownerOf o ky = o.getD (slotOf ky) 0 by unfold ownerOf; rw [if_pos ho]] at h)
  generalize slotOf ky = sl at *
  have HB8 := Lib.hid (HB8'.out.kept k9)
  have HB10' := Lib.hid (HB10.out.kept k9)
  have HR10 := Lib.hid (HR8'.out.kept k9)
  replace KV := Lib.hid (KV.out.trans k9)
  have HZ8 := Lib.hid HB8.out.lt
  clear k9 HB8' HB10 HR8'
  have HCH := Lib.hid (ChainSt.first HOX.out)
  go_wp2_with fail
  obtain ⟨N, hN⟩ : ∃ N, min nm 6 = N := ⟨_, rfl⟩
  have HN := Lib.hid hN
  have hN6 : N ≤ 6 := by omega
  have hNm : N ≤ nm := by omega
  clear hN
  obtain ⟨B, hB⟩ : ∃ B, W9.heap.size = B := ⟨_, rfl⟩
  have HB := Lib.hid hB
  rw [hB] at HZ8
  clear hB
  go_loopg [11, 12, 13] N (fun gh v11 v12 v13 wr => ∃ (k : Nat) (ep : Int) (l : List Mb) (o : List Int) (all : List Mv) (bm : Option Addr) (n cm' : Nat) (bo : Option Addr) (co' : Nat) (aa : Option Addr) (ca na : Nat) (ov : Int), gh + k = N ∧ v13 = .int .i64 k ∧ v12 = .int .i64 ov ∧ o.getD sl 0 = ov ∧ v11 = .slice aa na ca ∧ all.length = na ∧ wr.ownsRow B 60 3 (.slice aa na ca) na (flatV all) ∧ ChainSt ox k ep l o all ∧ l.length = n ∧ Box3 wr z8 (.int .i64 ep) (.slice bm n cm') (.slice bo 64 co') ∧ Rng wr (.agg #[.int .i64 ep, .slice bm n cm', .slice bo 64 co']) ep l o ∧ Keep (fun j => j = z8) W9 wr)
  case atStart => exact ⟨0, 1, lx, ox, [], am, nx, cm, ao, co, none, 0, 0, ov0, by omega, rfl, rfl, HOV0.out, rfl, rfl, by simpa [flatV, flatB] using World.ownsRow_nil W9 B 60 3, HCH.out, HNX.out, HB8.out, HR10.out, Keep.refl _ _⟩
  case round =>
    clear HCH HB8
    obtain ⟨k, ep, lr, orr, all, bm, nr, cr, bo, cw, aa, ca, na, ov, hk, rfl, rfl, hov, rfl, hna, hown, hst, hnr, hb8, hr8, hkeep⟩ := hrel
    have HNA := Lib.hid hna
    have HOV := Lib.hid hov
    have HAO := Lib.hid hown
    have HST := Lib.hid hst
    have HNR := Lib.hid hnr
    have HB8 := Lib.hid hb8
    have HR8 := Lib.hid hr8
    have HK := Lib.hid hkeep
    have HOR := Lib.hid hst.ok
    have HOL : Hid (orr.length = 64) := Lib.hid hst.ok.2.2.2.1
    have hep := hst.ep_
    clear hna hov hown hst hnr hb8 hr8 hkeep
    have HKW : Hid (Keep (fun _ => False) w wr) := Lib.hid (KV.out.trans' HK.out (fun j e => .inr (by have h5 : j = z8 := e; have := HZW.out; omega)))
    by_cases hlt : k < N
    · obtain ⟨ys, hys⟩ : ∃ ys, xss[k]? = some ys := ⟨_, List.getElem?_eq_getElem (by rw [HNM.out]; omega)⟩
      obtain ⟨u, hu, hits⟩ := HVC.out k ys hys
      have hva := HVA.out (by omega)
      have HIT := Lib.hid (hits.kept HKW.out)
      have HCU := Lib.hid (HKW.out.cell hu (fun h => h))
      have HVY := Lib.hid (mem13_vl ys)
      have hkm : (k : Int) < (nm : Int) := by omega
      have hk6 : (k : Int) < 6 := by omega
      have hk0 : (0 : Int) ≤ (k : Int) := by omega
      clear hys hu hits
      subst hva
      go_upto_region 12 with (fail)
      generalize hly : mem13 ys = ly at *
      have HLY := Lib.hid hly
      clear hly
      obtain ⟨ny, hny⟩ : ∃ n, ly.length = n := ⟨_, rfl⟩
      have HNY := Lib.hid hny
      clear hny
      have HST2 := Lib.hid (ChainSt.next (P := PN) (Q := QS) HST.out HVY.out.1 (by omega))
      have HOY : Hid (okRing (ep + 1) ly (changeL PN QS ly orr)) := Lib.hid HST2.out.ok
      have HEPB : Hid (ep < 1000000) := Lib.hid (by omega)
      have HKV := KV
      replace KV := HKW
      have r0 : ∀ p : KA (fun _ => False) wr, p.val.cell? ⟨z8, 0, none⟩ = some (.int .i64 ep) := fun p => (HB8.out.kept p.k).1
      have r1 : ∀ p : KA (fun _ => False) wr, p.val.cell? ⟨z8, 1, none⟩ = some (.slice bm nr cr) := fun p => (HB8.out.kept p.k).2.1
      have r2 : ∀ p : KA (fun _ => False) wr, p.val.cell? ⟨z8, 2, none⟩ = some (.slice bo 64 cw) := fun p => (HB8.out.kept p.k).2.2.1
      have m0 : ∀ p : KA (fun _ => False) wr, p.val.cell? ⟨vb, vo + k, none⟩ = some u := fun p => p.k.cell HCU.out (fun h => h)
      refine wp_region_free3 [0, 1, 2, 3, 4] [⟨5, 54, []⟩, ⟨6, 55, [54]⟩, ⟨7, 48, [55]⟩, ⟨10, 14, []⟩, ⟨8, 56, [48]⟩, ⟨9, 57, [48]⟩] ⟨9, 57, [48]⟩ (by simp) [(false, 11), (false, 12)] (inKA (fun _ => False) wr) (nextS 54 55 48 14 56 57 wr.heap.size (ep + 1) ly (changeL PN QS ly orr) ny) (Keep (fun _ => False)) (by kernel_rfl) (by kernel_rfl) (inKA.of (Keep.refl _ wr).drew) nextS_keep (fun w w' hw hk => by obtain ⟨p, rfl⟩ := hw; exact inKA.of (p.k.trans hk)) ?_
      iterate 5 (refine headW_step rfl (fun K hK => ?_); go_simp; refine hK _ ?_; clear hK K)
      clear r0 r1 r2 m0
      refine ⟨?_, ?_, ?_, ?_⟩
      · intro h hh
        simp only [List.mem_cons, List.not_mem_nil, or_false] at hh
        rcases hh with rfl | rfl | rfl | rfl | rfl | rfl <;> simp
      · refine freeW_step rfl (fun vs W hC hS K hK => ?_) (freeW_step rfl (fun vs W hC hS K hK => ?_) (freeW_step rfl (fun vs W hC hS K hK => ?_) (freeW_step rfl (fun vs W hC hS K hK => ?_) (freeW_step rfl (fun vs W hC hS K hK => ?_) (freeW_step rfl (fun vs W hC hS K hK => ?_) trivial)))))
        · obtain ⟨p, rfl⟩ := hC
          simp only [putL, List.foldl]
          have HMB := Lib.hid (members_mbs _ ys (HIT.out.kept p.k))
          go_simp
          refine HMB.out.mono ?_
          rintro e W2 ⟨a, c, rfl, hm, kk⟩
          rw [HLY.out, HNY.out] at hm ⊢
          exact hK _ _ ⟨fun _ => ⟨a, c, rfl, hm⟩, fun e => absurd e (by decide), fun e => absurd e (by decide), fun e => absurd e (by decide), fun e => absurd e (by decide)⟩ kk
        · obtain ⟨p, rfl⟩ := hC
          obtain ⟨a, c, e2, hm⟩ := (hS 54 (by simp)).1 rfl
          simp only [putL, List.foldl]
          generalize vs 54 = v54 at *
          subst e2
          have hch := next_change _ _ _ lr ly orr (HR8.out.kept p.k) HOR.out HEPB.out hm HVY.out.1 (HT.out.kept (KV.out.trans p.k))
          have HCH := Lib.hid hch
          clear hch
          go_simp
          refine HCH.out.mono ?_
          rintro e W2 ⟨v, rfl, hnv, kk⟩
          rw [HNY.out] at hnv
          have hsz := p.k.size
          exact hK _ _ ⟨fun e => absurd e (by decide), fun _ => hnv.lo hsz, fun e => absurd e (by decide), fun e => absurd e (by decide), fun e => absurd e (by decide)⟩ kk
        · have hnv := (hS 55 (by simp)).2.1 (.inl rfl)
          simp only [putL, List.foldl]
          generalize vs 55 = v55 at *
          go_simp
          exact hK _ _ ⟨fun e => absurd e (by decide), fun _ => hnv, fun e => absurd e (by decide), fun e => absurd e (by decide), fun e => absurd e (by decide)⟩ (Keep.refl _ W)
        · obtain ⟨p, rfl⟩ := hC
          simp only [putL, List.foldl]
          have hsz := p.k.size
          go_simp
          exact hK _ _ ⟨fun e => absurd e (by decide), fun e => absurd e (by decide), fun _ => ⟨p.val.heap.size, rfl, hsz, Box3.new _ _ _ _ _, ⟨_, World.alloc_heap_new _ _⟩⟩, fun e => absurd e (by decide), fun e => absurd e (by decide)⟩ ((Keep.refl _ p.val).alloc _)
        · obtain ⟨a, c, b, d, e1, h1, h2⟩ := (hS 48 (by simp)).2.1 (.inr rfl)
          simp only [putL, List.foldl]
          generalize vs 48 = v48 at *
          subst e1
          go_simp
          exact hK _ _ ⟨fun e => absurd e (by decide), fun e => absurd e (by decide), fun e => absurd e (by decide), fun _ => ⟨a, c, b, d, rfl, h1, h2⟩, fun e => absurd e (by decide)⟩ (Keep.refl _ W)
        · obtain ⟨a, c, b, d, e1, h1, h2⟩ := (hS 48 (by simp)).2.1 (.inr rfl)
          simp only [putL, List.foldl]
          generalize vs 48 = v48 at *
          subst e1
          go_simp
          exact hK _ _ ⟨fun e => absurd e (by decide), fun e => absurd e (by decide), fun e => absurd e (by decide), fun e => absurd e (by decide), fun _ => rfl⟩ (Keep.refl _ W)
      · refine ⟨_, rfl, rfl, fun vs W hC hS K hK => ?_⟩
        obtain ⟨a, c, b, d, e1, -⟩ := (hS ⟨7, 48, [55]⟩ (by simp) (by decide)).2.1 (.inr rfl)
        simp only [] at e1
        simp only [List.filter, List.map, putL, List.foldl, Nat.reduceBEq, Bool.not_false, Bool.not_true]
        generalize vs 48 = v48 at *
        subst e1
        go_simp
        exact hK _ ⟨fun e => absurd e (by decide), fun e => absurd e (by decide), fun e => absurd e (by decide), fun e => absurd e (by decide), fun _ => rfl⟩
      · intro vs W hC hS
        obtain ⟨p, rfl⟩ := hC
        obtain ⟨a54, c54, e1, -⟩ := (hS ⟨5, 54, []⟩ (by simp)).1 rfl
        obtain ⟨a55, c55, b55, d55, e2, -⟩ := (hS ⟨6, 55, [54]⟩ (by simp)).2.1 (.inl rfl)
        obtain ⟨a48, c48, b48, d48, e3, -⟩ := (hS ⟨7, 48, [55]⟩ (by simp)).2.1 (.inr rfl)
        obtain ⟨z14, e4, hz9, hb9, ht9⟩ := (hS ⟨10, 14, []⟩ (by simp)).2.2.1 rfl
        obtain ⟨am2, cm2, ao2, co2, e5, hm9, ho9⟩ := (hS ⟨8, 56, [48]⟩ (by simp)).2.2.2.1 rfl
        have e6 := (hS ⟨9, 57, [48]⟩ (by simp)).2.2.2.2 rfl
        simp only [] at e1 e2 e3 e4 e5 e6
        simp only [List.map, putL, List.foldl]
        generalize vs 54 = v54 at *
        generalize vs 55 = v55 at *
        generalize vs 48 = v48 at *
        generalize vs 14 = v14 at *
        generalize vs 56 = v56 at *
        generalize vs 57 = v57 at *
        subst e1 e2 e3 e4 e5 e6
        have HGMZ : Hid (∀ b, (Value.slice am2 ny cm2).ownBlock = some b → b ≠ z14) := Lib.hid (fun b hb => own_ne hm9 ht9 (by decide) hb)
        have HGOZ : Hid (∀ b, (Value.slice ao2 64 co2).ownBlock = some b → b ≠ z14) := Lib.hid (fun b hb => own_ne ho9 ht9 (by decide) hb)
        have HKP := Lib.hid p.k
        have HBP := Lib.hid hb9
        have HRP : Hid (Rng p.val (.agg #[.int .i64 (ep + 1), .slice am2 ny cm2, .slice ao2 64 co2]) (ep + 1) ly (changeL PN QS ly orr)) := Lib.hid (next_rng hm9 ho9 HNY.out HOY.out)
        have HZ9 : Hid (wr.heap.size ≤ z14) := Lib.hid hz9
        have HGB : Hid ((∀ b, (Value.slice am2 ny cm2).ownBlock = some b → wr.heap.size ≤ b) ∧ ∀ b, (Value.slice ao2 64 co2).ownBlock = some b → wr.heap.size ≤ b) := Lib.hid ⟨fun b hb => (hm9.lt b hb).1, fun b hb => (ho9.lt b hb).1⟩
        clear hS hz9 hb9 ht9 hm9 ho9
        generalize p.val = V at *
        obtain ⟨y0, y1, y2, yf⟩ := HBP.out
        refine walkW_do rfl (inKA.of HKP.out) (fun K hK => ?_)
        go_simp
        refine hK _ _ ?_; clear hK K
        clear y0 y1 y2 yf
        have kq : Keep (fun j => j = z14) V (((V.setCell ⟨z14, 0, none⟩ (.int .i64 (ep + 1))).setCell ⟨z14, 1, none⟩ (.slice am2 ny cm2)).setCell ⟨z14, 2, none⟩ (.slice ao2 64 co2)) := (((Keep.refl (fun j => j = z14) V).setCell (p := ⟨z14, 0, none⟩) _ (.inl rfl)).setCell (p := ⟨z14, 1, none⟩) _ (.inl rfl)).setCell (p := ⟨z14, 2, none⟩) _ (.inl rfl)
        have HBQ := Lib.hid (((HBP.out.set0 (.int .i64 (ep + 1))).set1 (.slice am2 ny cm2)).set2 (.slice ao2 64 co2))
        have HRQ := Lib.hid (HRP.out.keep kq (fun b hb e => HGMZ.out b hb e) (fun b hb e => HGOZ.out b hb e))
        have HKQ := Lib.hid (HKP.out.trans' kq (fun j e => .inr (by have h5 : j = z14 := e; have := HZ9.out; omega)))
        clear kq HBP HRP HKP HGMZ HGOZ
        generalize ((V.setCell ⟨z14, 0, none⟩ (.int .i64 (ep + 1))).setCell ⟨z14, 1, none⟩ (.slice am2 ny cm2)).setCell ⟨z14, 2, none⟩ (.slice ao2 64 co2) = V6 at *
        refine walkW_do rfl (inKA.of HKQ.out) (fun K hK => ?_)
        go_simp
        refine hK _ _ ?_; clear hK K
        refine ⟨inKA.of HKQ.out, ?_⟩
        have KV6 := Lib.hid (KV.out.trans HKQ.out)
        have HBR := Lib.hid (HB8.out.kept HKQ.out)
        have HRR := Lib.hid (HR8.out.kept HKQ.out)
        have HA6 := Lib.hid (ownsRow_keep HAO.out HKQ.out (fun _ _ h => h))
        generalize changeL PN QS ly orr = oy at *
        have HLYO : Hid (oy.length = 64) := Lib.hid HOY.out.2.2.2.1
        go_upto_region 15 with (fail)
        obtain ⟨x0, x1, x2, -⟩ := HBR.out
        obtain ⟨y0, y1, y2, -⟩ := HBQ.out
        go_wp2_with fail
        clear x0 x1 x2 y0 y1 y2
        with_reducible refine (moves_any _ _ _ _ _ _ _ _ V6 HRR.out HRQ.out HOL.out HLYO.out).mono ?_
        rintro e W8 ⟨aq, cq, rfl, hmo, k8⟩
        have hbd := movesK_bd (okRing_nodes HOR.out) (okRing_nodes HOY.out)
        have hmv := mvs_owns hmo (by have := movesK_len orr oy 64; omega) hbd
        have hq := movesK_len orr oy 64
        have HNAM := Lib.hid (named_iff (a := orr) (b := oy) hsl0)
        generalize movesK orr oy 64 = ms at *
        obtain ⟨q, hqe⟩ : ∃ n, ms.length = n := ⟨_, rfl⟩
        have HQ := Lib.hid hqe
        rw [hqe] at hmo hmv hq ⊢
        have HMV := Lib.hid hmv
        have HMO := Lib.hid hmo
        have HA8 := Lib.hid (ownsRow_keep HA6.out k8 (fun _ _ h => h))
        have HBR8 := Lib.hid (HBR.out.kept k8)
        have HBQ8 := Lib.hid (HBQ.out.kept k8)
        have HRQ8 := Lib.hid (HRQ.out.kept k8)
        have HK68 := Lib.hid (HKQ.out.trans k8)
        have KV8 := Lib.hid (KV6.out.trans k8)
        have HSZB : Hid (B ≤ wr.heap.size ∧ w.heap.size ≤ B ∧ wr.heap.size ≤ V6.heap.size) := Lib.hid ⟨by have := HB.out; have := HK.out.size; omega, by have := HB.out; have := HKV.out.size; omega, HKQ.out.size⟩
        have HAB : Hid (∀ j, (Value.slice aa na ca).ownBlock = some j → B ≤ j ∧ j < wr.heap.size) := Lib.hid (fun j hj => HAO.out.lt j hj)
        clear hbd hmv hqe hmo k8 HA6 HBR HBQ HRQ HRR
        obtain ⟨v', W10, hr, ho, hkk⟩ := app_mvs0 W8 55 B (.slice aa na ca) (.slice aq q cq) all ms (by rw [HNA.out]; exact HA8.out) HMV.out (by have := HNA.out; have := HQ.out; have := HST.out.len; omega) (by have := HSZB.out; have := HK68.out.size; omega)
        have HBR := Lib.hid (HBR8.out.keep hkk (fun e => by have := HAB.out _ e; have := HZ8.out; omega))
        have HBQ := Lib.hid (HBQ8.out.keep hkk (fun e => by have := HAB.out _ e; have := HZ9.out; omega))
        have HRQ := Lib.hid (HRQ8.out.keep hkk (fun j hj e => by have := HAB.out _ e; have := HGB.out.1 j hj; omega) (fun j hj e => by have := HAB.out _ e; have := HGB.out.2 j hj; omega))
        have HMV10 : Hid (Mvs W10 (.slice aq q cq) ms) := Lib.hid (Mbs.keep HMV.out hkk (fun j hj e => by have := HAB.out _ e; have := (HMO.out.lt j hj).1; have := HSZB.out; omega))
        have KV10 : Hid (Keep (fun _ => False) w W10) := Lib.hid (KV8.out.trans' hkk (fun j e => .inr (by have := HAB.out _ e; have := HSZB.out; omega)))
        have KZ10 : Hid (Keep (fun j => j = z8) W9 W10) := Lib.hid ((HK.out.trans (HK68.out.mono (fun _ h => h.elim))).trans' hkk (fun j e => .inr (by have := HAB.out _ e; have := HB.out; omega)))
        have HCELL : Hid (0 < q → ∃ b off, aq = some ⟨b, off, none⟩ ∧ q ≤ cq ∧ ∀ (j : Nat) (m : Mv), ms[j]? = some m → W10.cell? ⟨b, off + j * 3, none⟩ = some (.int .i64 m.slot)) := Lib.hid (fun h0 => by
          obtain ⟨-, -, a', c', b, off, e, hc, ha, hcell⟩ := HMV10.out
          obtain ⟨e1, e2, e3⟩ := Value.slice.inj e
          subst e3
          rw [List.length_map] at hc ha
          have := HQ.out
          refine ⟨b, off, e1.trans (ha (by omega)), by omega, fun j m hj => ?_⟩
          exact (hcell j (mvMb m) (by rw [List.getElem?_map, hj]; rfl)).1)
        obtain ⟨aa2, ca2, rfl⟩ := own_form ho
        obtain ⟨na2, hna2⟩ : ∃ n, (all ++ ms).length = n := ⟨_, rfl⟩
        rw [hna2] at ho hr
        have HNA2 := Lib.hid hna2
        have HAO2 := Lib.hid ho
        have HR := Lib.hid hr
        have HST3 : Hid (ChainSt ox (k + 1) (ep + 1) ly oy (all ++ ms)) := HST2
        clear hna2 ho hr hkk HA8 HBR8 HBQ8 HRQ8 KV8 HMV HMV10
        go_wp2_with (at_builtin; refine wpList_app rfl (.tmp 63) (.tmp 64) 55 rfl rfl rfl HR.out ?_)
        go_loopg [17, 18] q (fun gh v17 v18 wr2 => ∃ (i : Nat) (b : Bool), gh + i = q ∧ v18 = .int .i64 i ∧ v17 = .bool b ∧ Hid (b = (ms.take i).any (fun m => decide (m.slot = sl))) ∧ Keep (fun _ => False) W10 wr2)
        case atStart => exact ⟨0, false, by omega, rfl, rfl, Lib.hid (by simp), Keep.refl _ _⟩
        case round =>
          obtain ⟨i, b, hi, rfl, rfl, HBB, hkeep⟩ := hrel
          have HKI := Lib.hid hkeep
          clear hkeep
          by_cases hil : i < q
          · obtain ⟨m, hm⟩ : ∃ m, ms[i]? = some m := ⟨_, List.getElem?_eq_getElem (by rw [HQ.out]; exact hil)⟩
            have HNX2 := Lib.hid (any_next (s := sl) hm)
            obtain ⟨bq, oq, rfl, hqc, hcell⟩ := HCELL.out (by omega)
            have c0 := HKI.out.cell (hcell i m hm) (fun h => h)
            have HT0 : Hid (∀ n, Tab (wr.drewN n)) := Lib.hid (fun n => HT.out.kept (KV10.out.trans (HKI.out.drewN n)))
            have hiz : (i : Int) < (q : Int) := by omega
            have hi0 : (0 : Int) ≤ (i : Int) := by omega
            clear hm hcell
            cases b with
            | true =>
              have HBN : Hid (true = (ms.take (i + 1)).any (fun m => decide (m.slot = sl))) := Lib.hid (by rw [HNX2.out, ← HBB.out]; rfl)
              clear c0
              go_upto_region 21 with (fail)
              go_quiet (fail)
              have HKN := Lib.hid (HKI.out.drewN nq)
              generalize wr.drewN nq = Y at *
              go_wp2_with fail
              go_roundg (q - (i + 1))
              case rel => exact ⟨i + 1, true, by omega, by go_num, rfl, HBN, HKN.out⟩
              case measure => omega
            | false =>
              by_cases hms : m.slot = (sl : Int)
              · have HBN : Hid (true = (ms.take (i + 1)).any (fun m => decide (m.slot = sl))) := Lib.hid (by rw [HNX2.out, ← HBB.out]; simp [hms])
                have hb : (m.slot == (sl : Int)) = true := by simpa using hms
                generalize m.slot = m0 at *
                clear hms
                go_upto_region 21 with (fail)
                go_quiet ((go_at_call 34; exact quiet_same (HSLOT.out _ (HT0.out _))))
                have HKN := Lib.hid (HKI.out.drewN nq)
                clear c0 HT0
                generalize wr.drewN nq = Y at *
                go_wp2_with fail
                go_roundg (q - (i + 1))
                case rel => exact ⟨i + 1, true, by omega, by go_num, by first | rfl | rw [hb], HBN, HKN.out⟩
                case measure => omega
              · have HBN : Hid (false = (ms.take (i + 1)).any (fun m => decide (m.slot = sl))) := Lib.hid (by rw [HNX2.out, ← HBB.out]; simp [hms])
                have hb : (m.slot == (sl : Int)) = false := by simpa using hms
                generalize m.slot = m0 at *
                clear hms
                go_upto_region 21 with (fail)
                go_quiet ((go_at_call 34; exact quiet_same (HSLOT.out _ (HT0.out _))))
                have HKN := Lib.hid (HKI.out.drewN nq)
                clear c0 HT0
                generalize wr.drewN nq = Y at *
                go_wp2_with fail
                go_roundg (q - (i + 1))
                case rel => exact ⟨i + 1, false, by omega, by go_num, by first | rfl | rw [hb], HBN, HKN.out⟩
                case measure => omega
          · obtain rfl : i = q := by omega
            obtain rfl : b = (oy.getD sl 0 != orr.getD sl 0) := by
              rw [HBB.out, ← HNAM.out, List.take_of_length_le (by rw [HQ.out]; exact Nat.le_refl _)]
            have HOWK := Lib.hid (HOWN.out wr _ (ep + 1) ly oy HLYO.out (HRQ.out.kept HKI.out) (HT.out.kept (KV10.out.trans HKI.out)))
            rw [HOV.out]
            generalize ov = u2 at *
            generalize hv2 : oy.getD sl 0 = v2 at HOWK ⊢
            have HV3 := Lib.hid hv2
            clear hv2
            obtain ⟨y0, y1, y2, -⟩ := HBQ.out.kept HKI.out
            go_wp2_with fail
            clear y0 y1 y2
            with_reducible refine HOWK.out.mono ?_
            rintro e Y ⟨rfl, kx⟩
            have HKY := Lib.hid (HKI.out.trans kx)
            clear kx
            generalize hbb : (v2 != u2) = bb at *
            have hb2 : (bb != bb) = false := by simp
            have HBQY := Lib.hid (HBQ.out.kept HKY.out)
            have HBRY := Lib.hid (HBR.out.kept HKY.out)
            have HRQY := Lib.hid (HRQ.out.kept HKY.out)
            have HAOY := Lib.hid (ownsRow_keep HAO2.out HKY.out (fun _ _ h => h))
            have KZY : Hid (Keep (fun j => j = z8) W9 Y) := Lib.hid (KZ10.out.trans (HKY.out.mono (fun _ h => h.elim)))
            obtain ⟨y0, y1, y2, -⟩ := HBQY.out
            obtain ⟨x0, x1, x2, xf⟩ := HBRY.out
            go_upto_region 11 with (fail)
            clear x0 x1 x2 xf y0 y1 y2 hbb hb2
            have kq : Keep (fun j => j = z8) Y (((Y.setCell ⟨z8, 0, none⟩ (.int .i64 (ep + 1))).setCell ⟨z8, 1, none⟩ (.slice am2 ny cm2)).setCell ⟨z8, 2, none⟩ (.slice ao2 64 co2)) := (((Keep.refl (fun j => j = z8) Y).setCell (p := ⟨z8, 0, none⟩) _ (.inl rfl)).setCell (p := ⟨z8, 1, none⟩) _ (.inl rfl)).setCell (p := ⟨z8, 2, none⟩) _ (.inl rfl)
            have HBN8 := Lib.hid (((HBRY.out.set0 (.int .i64 (ep + 1))).set1 (.slice am2 ny cm2)).set2 (.slice ao2 64 co2))
            have HRN8 := Lib.hid (HRQY.out.keep kq (fun j hj e => by have h5 : j = z8 := e; have := HGB.out.1 j hj; have := HSZB.out; have := HZ8.out; omega) (fun j hj e => by have h5 : j = z8 := e; have := HGB.out.2 j hj; have := HSZB.out; have := HZ8.out; omega))
            have HAN8 := Lib.hid (ownsRow_keep HAOY.out kq (fun j hj e => by have h5 : j = z8 := e; have := (HAOY.out.lt j hj).1; have := HZ8.out; omega))
            have KZN := Lib.hid (KZY.out.trans kq)
            clear kq
            generalize ((Y.setCell ⟨z8, 0, none⟩ (.int .i64 (ep + 1))).setCell ⟨z8, 1, none⟩ (.slice am2 ny cm2)).setCell ⟨z8, 2, none⟩ (.slice ao2 64 co2) = Y6 at *
            go_wp2_with fail
            go_roundg (N - (k + 1))
            case rel => exact ⟨k + 1, ep + 1, ly, oy, all ++ ms, am2, ny, cm2, ao2, co2, aa2, ca2, na2, v2, by omega, by go_num, rfl, HV3.out, rfl, HNA2.out, HAN8.out, HST3.out, HNY.out, HBN8.out, HRN8.out, KZN.out⟩
            case measure => omega
    · obtain rfl : k = N := by omega
      have HBF := Lib.hid (HB10'.out.keep HK.out (fun e => by have h5 : z10 = z8 := e; have := HZ10.out; omega))
      have HRF := Lib.hid (HR10.out.keep HK.out (fun j hj e => by have h5 : j = z8 := e; have := HLOW.out.1 j hj; omega) (fun j hj e => by have h5 : j = z8 := e; have := HLOW.out.2 j hj; omega))
      have hma : Mvs wr (.slice aa na ca) all := by
        have h := HAO.out
        rw [← HNA.out] at h
        have h2 := mvs_owns h (by have := HST.out.len; omega) HST.out.bd
        rwa [HNA.out] at h2
      have HMA := Lib.hid hma
      clear hma
      have hk0 : (0 : Int) ≤ (k : Int) := by omega
      by_cases hkm : k < nm
      · have hkz : (k : Int) < (nm : Int) := by omega
        have hk6 : ¬ (k : Int) < 6 := by have := HN.out; omega
        go_upto_region 27 with (fail)
        have r0 : ∀ p : KA (fun _ => False) wr, p.val.cell? ⟨z10, 0, none⟩ = some (.int .i64 1) := fun p => (HBF.out.kept p.k).1
        have r1 : ∀ p : KA (fun _ => False) wr, p.val.cell? ⟨z10, 1, none⟩ = some (.slice am nx cm) := fun p => (HBF.out.kept p.k).2.1
        have r2 : ∀ p : KA (fun _ => False) wr, p.val.cell? ⟨z10, 2, none⟩ = some (.slice ao 64 co) := fun p => (HBF.out.kept p.k).2.2.1
        have s0 : ∀ p : KA (fun _ => False) wr, p.val.cell? ⟨z8, 0, none⟩ = some (.int .i64 ep) := fun p => (HB8.out.kept p.k).1
        have s1 : ∀ p : KA (fun _ => False) wr, p.val.cell? ⟨z8, 1, none⟩ = some (.slice bm nr cr) := fun p => (HB8.out.kept p.k).2.1
        have s2 : ∀ p : KA (fun _ => False) wr, p.val.cell? ⟨z8, 2, none⟩ = some (.slice bo 64 cw) := fun p => (HB8.out.kept p.k).2.2.1
        refine wp_region_walk [(false, 0), (false, 1), (true, 2), (true, 3), (true, 5), (true, 6), (false, 4), (false, 7), (false, 8), (false, 9), (false, 10), (false, 11), (false, 12), (false, 13)] (inKA (fun _ => False) wr) (by kernel_rfl) (by kernel_rfl) ?_
        have HKD : Hid (Keep (fun _ => False) wr wr.drew) := Lib.hid (Keep.refl _ wr).drew
        refine walkW_do rfl (inKA.of HKD.out) (fun K hK => ?_); go_simp; refine hK _ _ ?_; clear hK K
        refine walkW_do rfl (inKA.of HKD.out) (fun K hK => ?_); go_simp; refine hK _ _ ?_; clear hK K
        refine walkW_read rfl (fun K hK => ?_); go_simp; refine hK _ ?_; clear hK K
        refine walkW_read rfl (fun K hK => ?_); go_simp; refine hK _ ?_; clear hK K
        refine walkW_read rfl (fun K hK => ?_); go_simp; refine hK _ ?_; clear hK K
        refine walkW_read rfl (fun K hK => ?_); go_simp; refine hK _ ?_; clear hK K
        clear r0 r1 r2 s0 s1 s2
        have HAC := Lib.hid (apply_any _ _ 1 lx ox all wr.drew (HRF.out.kept HKD.out) HLX.out (HMA.out.kept HKD.out) HST.out.slot)
        rw [HST.out.eq] at HAC
        generalize wr.drew = Y0 at *
        refine walkW_do rfl (inKA.of HKD.out) (fun K hK => ?_)
        go_simp
        with_reducible refine HAC.out.mono ?_
        rintro e Y1 ⟨a67, c67, rfl, h67, k67⟩
        rw [HOL.out] at h67 ⊢
        refine hK _ _ ?_; clear hK K HAC
        have h67' : Its Y1 (.slice a67 64 c67) orr := by
          have h := its_owns (lo := Y0.heap.size) (v := .slice a67 64 c67) (xs := orr) (by rw [HOL.out]; exact h67) (by rw [HOL.out]; decide) HOR.out.obd
          exact h
        have HK1 := Lib.hid (HKD.out.trans k67)
        have HSC := Lib.hid (sameInts_any _ _ orr orr Y1 h67' (HR8.out.kept HK1.out).its)
        rw [decide_eq_true (rfl : orr = orr)] at HSC
        clear h67 h67' k67
        refine walkW_do rfl (inKA.of HK1.out) (fun K hK => ?_)
        go_simp
        with_reducible refine HSC.out.mono ?_
        rintro e Y2 ⟨rfl, k68⟩
        refine hK _ _ ?_; clear hK K HSC
        have HK2 := Lib.hid (HK1.out.trans k68)
        clear k68 HK1 HKD
        obtain ⟨u0, u1, u2, -⟩ := HB8.out.kept HK2.out
        refine walkW_do rfl (inKA.of HK2.out) (fun K hK => ?_); go_simp; refine hK _ _ ?_; clear hK K
        refine walkW_do rfl (inKA.of HK2.out) (fun K hK => ?_); go_simp; refine hK _ _ ?_; clear hK K
        refine walkW_do rfl (inKA.of HK2.out) (fun K hK => ?_); go_simp; refine hK _ _ ?_; clear hK K
        clear u0 u1 u2
        have HVC := Lib.hid (validRing_any _ ep lr orr Y2 (HR8.out.kept HK2.out))
        rw [(validRB_iff ep lr orr).2 HOR.out] at HVC
        refine walkW_do rfl (inKA.of HK2.out) (fun K hK => ?_)
        go_simp
        with_reducible refine HVC.out.mono ?_
        rintro e Y3 ⟨rfl, k69⟩
        refine hK _ _ ?_; clear hK K HVC
        have HK3 := Lib.hid (HK2.out.trans k69)
        clear k69
        refine walkW_do rfl (inKA.of HK3.out) (fun K hK => ?_); go_simp; refine hK _ _ ?_; clear hK K
        refine walkW_do rfl (inKA.of HK3.out) (fun K hK => ?_); go_simp; refine hK _ _ ?_; clear hK K
        refine ⟨inKA.of HK3.out, ?_⟩
        have HKE := Lib.hid (HKW.out.trans HK3.out)
        go_wp2_with fail
        go_ret
        exact ⟨rfl, HKE.out⟩
      · have hkz : ¬ (k : Int) < (nm : Int) := by omega
        go_upto_region 27 with (fail)
        have r0 : ∀ p : KA (fun _ => False) wr, p.val.cell? ⟨z10, 0, none⟩ = some (.int .i64 1) := fun p => (HBF.out.kept p.k).1
        have r1 : ∀ p : KA (fun _ => False) wr, p.val.cell? ⟨z10, 1, none⟩ = some (.slice am nx cm) := fun p => (HBF.out.kept p.k).2.1
        have r2 : ∀ p : KA (fun _ => False) wr, p.val.cell? ⟨z10, 2, none⟩ = some (.slice ao 64 co) := fun p => (HBF.out.kept p.k).2.2.1
        have s0 : ∀ p : KA (fun _ => False) wr, p.val.cell? ⟨z8, 0, none⟩ = some (.int .i64 ep) := fun p => (HB8.out.kept p.k).1
        have s1 : ∀ p : KA (fun _ => False) wr, p.val.cell? ⟨z8, 1, none⟩ = some (.slice bm nr cr) := fun p => (HB8.out.kept p.k).2.1
        have s2 : ∀ p : KA (fun _ => False) wr, p.val.cell? ⟨z8, 2, none⟩ = some (.slice bo 64 cw) := fun p => (HB8.out.kept p.k).2.2.1
        refine wp_region_walk [(false, 0), (false, 1), (true, 2), (true, 3), (true, 5), (true, 6), (false, 4), (false, 7), (false, 8), (false, 9), (false, 10), (false, 11), (false, 12), (false, 13)] (inKA (fun _ => False) wr) (by kernel_rfl) (by kernel_rfl) ?_
        have HKD : Hid (Keep (fun _ => False) wr wr.drew) := Lib.hid (Keep.refl _ wr).drew
        refine walkW_do rfl (inKA.of HKD.out) (fun K hK => ?_); go_simp; refine hK _ _ ?_; clear hK K
        refine walkW_do rfl (inKA.of HKD.out) (fun K hK => ?_); go_simp; refine hK _ _ ?_; clear hK K
        refine walkW_read rfl (fun K hK => ?_); go_simp; refine hK _ ?_; clear hK K
        refine walkW_read rfl (fun K hK => ?_); go_simp; refine hK _ ?_; clear hK K
        refine walkW_read rfl (fun K hK => ?_); go_simp; refine hK _ ?_; clear hK K
        refine walkW_read rfl (fun K hK => ?_); go_simp; refine hK _ ?_; clear hK K
        clear r0 r1 r2 s0 s1 s2
        have HAC := Lib.hid (apply_any _ _ 1 lx ox all wr.drew (HRF.out.kept HKD.out) HLX.out (HMA.out.kept HKD.out) HST.out.slot)
        rw [HST.out.eq] at HAC
        generalize wr.drew = Y0 at *
        refine walkW_do rfl (inKA.of HKD.out) (fun K hK => ?_)
        go_simp
        with_reducible refine HAC.out.mono ?_
        rintro e Y1 ⟨a67, c67, rfl, h67, k67⟩
        rw [HOL.out] at h67 ⊢
        refine hK _ _ ?_; clear hK K HAC
        have h67' : Its Y1 (.slice a67 64 c67) orr := by
          have h := its_owns (lo := Y0.heap.size) (v := .slice a67 64 c67) (xs := orr) (by rw [HOL.out]; exact h67) (by rw [HOL.out]; decide) HOR.out.obd
          exact h
        have HK1 := Lib.hid (HKD.out.trans k67)
        have HSC := Lib.hid (sameInts_any _ _ orr orr Y1 h67' (HR8.out.kept HK1.out).its)
        rw [decide_eq_true (rfl : orr = orr)] at HSC
        clear h67 h67' k67
        refine walkW_do rfl (inKA.of HK1.out) (fun K hK => ?_)
        go_simp
        with_reducible refine HSC.out.mono ?_
        rintro e Y2 ⟨rfl, k68⟩
        refine hK _ _ ?_; clear hK K HSC
        have HK2 := Lib.hid (HK1.out.trans k68)
        clear k68 HK1 HKD
        obtain ⟨u0, u1, u2, -⟩ := HB8.out.kept HK2.out
        refine walkW_do rfl (inKA.of HK2.out) (fun K hK => ?_); go_simp; refine hK _ _ ?_; clear hK K
        refine walkW_do rfl (inKA.of HK2.out) (fun K hK => ?_); go_simp; refine hK _ _ ?_; clear hK K
        refine walkW_do rfl (inKA.of HK2.out) (fun K hK => ?_); go_simp; refine hK _ _ ?_; clear hK K
        clear u0 u1 u2
        have HVC := Lib.hid (validRing_any _ ep lr orr Y2 (HR8.out.kept HK2.out))
        rw [(validRB_iff ep lr orr).2 HOR.out] at HVC
        refine walkW_do rfl (inKA.of HK2.out) (fun K hK => ?_)
        go_simp
        with_reducible refine HVC.out.mono ?_
        rintro e Y3 ⟨rfl, k69⟩
        refine hK _ _ ?_; clear hK K HVC
        have HK3 := Lib.hid (HK2.out.trans k69)
        clear k69
        refine walkW_do rfl (inKA.of HK3.out) (fun K hK => ?_); go_simp; refine hK _ _ ?_; clear hK K
        refine walkW_do rfl (inKA.of HK3.out) (fun K hK => ?_); go_simp; refine hK _ _ ?_; clear hK K
        refine ⟨inKA.of HK3.out, ?_⟩
        have HKE := Lib.hid (HKW.out.trans HK3.out)
        go_wp2_with fail
        go_ret
        exact ⟨rfl, HKE.out⟩
end Go.Proofs.YtplkmbfeeegaiaaDoor
