/-
  RingOwners.
-/
import Derived.Test.YtplkmbfeeegaiaaDoorB9
import Derived.Test.YtplkmbfeeegaiaaDoorP3
namespace Go.Proofs.YtplkmbfeeegaiaaDoor
open Go.RowKit Go.Shelf

set_option maxRecDepth 100000 in
set_option maxHeartbeats 8000000 in
theorem ownersLaw_any (v : Value) (xs : List Int) (key : ByteArray) (sl nd : Int) (w : World) (h : Its w v xs) (hkey : key.size ≤ maxLen) (hsl : I64 sl) (hnd : I64 nd) (hT : Tab w) : Calls Tryd.prog 9 #[v, .string key, .int .i64 sl, .int .i64 nd] w fun e w' => e = .returned (.bool true) ∧ Keep (fun _ => False) w w' := by
  have HT := Lib.hid hT
  have HI := Lib.hid h
  have HSL := Lib.hid hsl
  have HND := Lib.hid hnd
  obtain ⟨va, vn, vc, rfl⟩ : ∃ a n c, v = .slice a n c := by
    obtain ⟨-, -, a, c, b, off, rfl, -⟩ := h
    exact ⟨_, _, _, rfl⟩
  clear hT h hsl hnd
  obtain ⟨l, hl⟩ : ∃ l, someL xs = l := ⟨_, rfl⟩
  have hv : VL l := by rw [← hl]; exact someL_ok xs
  have hp1 := pk_bd sl 64 (by decide)
  have hp2 := pk_bd nd 26 (by decide)
  unfold maxLen at hkey
  go_enter Tryd.func9, Tryd.ntmps9
  go_wp2_with fail
  with_reducible refine (sane_any w HT.out).mono ?_
  rintro e W1 ⟨rfl, k1⟩
  have HK1 := Lib.hid k1
  clear k1
  go_wp2_with fail
  have HKS0 : Hid ((key.extract 0 (min (key.size : Int) 100).toNat).size ≤ 100) := Lib.hid (by rw [ByteArray.size_extract]; omega)
  generalize key.extract 0 (min (key.size : Int) 100).toNat = ky at *
  with_reducible refine (some_any _ xs _ (HI.out.kept HK1.out)).mono ?_
  rintro e W2 ⟨vl, rfl, hol⟩
  rw [hl] at hol
  have HM : Hid (Mbs W2 vl l) := Lib.hid (hol.mbs hv)
  have HK2 := Lib.hid (HK1.out.trans hol.1)
  have HT2 := Lib.hid (HT.out.kept HK2.out)
  have HV := Lib.hid hv
  clear hol hl HK1 HT HI
  obtain ⟨la, ln, lc, lb, lo, rfl, hln, hlc, hla, hlcell⟩ : ∃ a n c b off, vl = .slice a n c ∧ n = l.length ∧ n ≤ c ∧ (0 < n → a = some ⟨b, off, none⟩) ∧ ∀ (j : Nat) (m : Mb), l[j]? = some m → W2.cell? ⟨b, off + j * 3, none⟩ = some (.int .i64 m.node) ∧ W2.cell? ⟨b, off + j * 3 + 1, none⟩ = some (.int .i64 m.region) ∧ W2.cell? ⟨b, off + j * 3 + 2, none⟩ = some (.int .i64 m.weight) := by
    obtain ⟨-, -, a, c, b, off, rfl, hc, ha, hcell⟩ := HM.out
    exact ⟨_, _, _, b, off, rfl, rfl, hc, ha, hcell⟩
  obtain rfl := hla (by rw [hln]; exact List.length_pos_iff.2 hv.ne)
  have HLC := Lib.hid (fun (j : Nat) (m : Mb) hj => (hlcell j m hj).1)
  have HLN := Lib.hid hln
  have hln24 : ln ≤ 24 := by rw [hln]; exact hv.len
  have hln1 : 0 < ln := by rw [hln]; exact List.length_pos_iff.2 hv.ne
  clear hla hlcell hln hv
  go_wp2_with fail
  with_reducible refine (new_ok 3 _ l _ HM.out HV.out HT2.out (by omega)).mono ?_
  rintro e W5 ⟨vm, vo, rfl, hm5, ho5, hd5, k5⟩
  have hlen64 := (owners_ok PN QS HV.out).1
  have HVB := Lib.hid ((validRB_iff 3 l (ownersL PN QS l)).2 ⟨by omega, by omega, HV.out, hlen64, (owners_ok PN QS HV.out).2.1⟩)
  have HOKR := Lib.hid ((validRB_iff 3 l (ownersL PN QS l)).1 HVB.out)
  have HMEM := Lib.hid (owners_ok PN QS HV.out).2.2
  have HOBD := Lib.hid HV.out.obd
  generalize ownersL PN QS l = ow at *
  have HLEN := Lib.hid hlen64
  rw [hlen64] at ho5
  have hvm : ∃ a n c, vm = .slice a n c := by
    rcases hm5.2 with ⟨rfl, _⟩ | ⟨g, cap, cur, rfl, _⟩ <;> exact ⟨_, _, _, rfl⟩
  obtain ⟨ma, mn, mc, rfl⟩ := hvm
  have hvo : ∃ g c, vo = .slice (some ⟨g, 0, none⟩) 64 c ∧ 64 ≤ c := by
    rcases ho5.2 with ⟨_, e0⟩ | ⟨g, cap, cur, rfl, _, _, h1, _⟩
    · omega
    · exact ⟨g, cap, rfl, h1⟩
  obtain ⟨og, oc, rfl, hoc⟩ := hvo
  have HMV5 : Hid (Mbs W5 (.slice ma mn mc) l) := Lib.hid (mbs_owns hm5 (by have := HV.out.len; omega) HV.out.bd)
  have HGL : Hid (W2.heap.size ≤ og ∧ og < W5.heap.size) := Lib.hid (ho5.lt og rfl)
  have HMVG : Hid (∀ b, (Value.slice ma mn mc).ownBlock = some b → b ≠ og) := Lib.hid (fun b hb e => hd5 og rfl (e ▸ hb))
  have HOW5 := Lib.hid ho5
  have HK5 := Lib.hid k5
  clear hm5 ho5 hd5 k5 hlen64
  go_wp2_with fail
  have HB3 := Lib.hid (three_cell W5 (.int .i64 3) (.slice ma mn mc) (.slice (some ⟨og, 0, none⟩) 64 oc) 31)
  have HK6 : Hid (Keep (fun _ => False) W5 (W5.alloc (.cells #[.int .i64 3, .slice ma mn mc, .slice (some ⟨og, 0, none⟩) 64 oc] 31))) := Lib.hid ((Keep.refl _ W5).alloc _)
  have HZG : Hid (og ≠ W5.heap.size) := Lib.hid (by have := HGL.out; omega)
  generalize W5.alloc (.cells #[.int .i64 3, .slice ma mn mc, .slice (some ⟨og, 0, none⟩) 64 oc] 31) = X0 at *
  generalize W5.heap.size = z at *
  have HKX := Lib.hid (HK2.out.trans (HK5.out.trans HK6.out))
  have HMX := Lib.hid (HM.out.kept (HK5.out.trans HK6.out))
  have HTX := Lib.hid (HT2.out.kept (HK5.out.trans HK6.out))
  have HMV := Lib.hid (HMV5.out.kept HK6.out)
  have HOWN := Lib.hid (ownsRow_keep HOW5.out HK6.out (fun _ _ h => h))
  have HLX := Lib.hid (fun (j : Nat) (m : Mb) hj => (HK5.out.trans HK6.out).cell (HLC.out j m hj) (fun h => h))
  have HF0 := Lib.hid HB3.out.1
  have HF1 := Lib.hid HB3.out.2.1
  have HF2 := Lib.hid HB3.out.2.2.1
  have HLG : Hid (lb ≠ og) := Lib.hid (by
    obtain ⟨m, hm⟩ : ∃ m, l[0]? = some m := ⟨_, List.getElem?_eq_getElem (by have := HLN.out; omega)⟩
    have := World.block_lt_of_cell? _ _ (HLC.out 0 m hm)
    simp only [] at this
    have := HGL.out.1
    omega)
  have HW2X : Hid (W2.heap.size ≤ X0.heap.size) := Lib.hid (HK5.out.trans HK6.out).size
  clear HB3 HOW5 HMV5 HK5 HK6 HM HLC HT2
  -- the first part only reads
  have HI0 : Hid (Its X0 (.slice (some ⟨og, 0, none⟩) 64 oc) ow) := Lib.hid (its_owns (by rw [HLEN.out]; exact HOWN.out) (by rw [HLEN.out]; decide) HOBD.out)
  have HRX : Hid (Rng X0 (ringV 3 (.slice ma mn mc) (.slice (some ⟨og, 0, none⟩) 64 oc)) 3 l ow) := Lib.hid ⟨by unfold I64; omega, _, _, rfl, HMV.out, HI0.out⟩
  have f2 := HF2.out
  go_wp2_with fail
  clear f2
  with_reducible refine (slot_any ky (by have := HKS0.out; omega) _ HTX.out).mono ?_
  rintro e w' ⟨rfl, rfl⟩
  have hsl0 := slotOf_lt ky
  obtain ⟨x, hx⟩ : ∃ x, ow[slotOf ky]? = some x := ⟨_, List.getElem?_eq_getElem (by rw [HLEN.out]; exact hsl0)⟩
  have HOX : Hid (ownerOf ow ky = x) := Lib.hid (by unfold ownerOf; rw [if_pos HLEN.out, List.getD_eq_getElem?_getD, hx]; rfl)
  have HXM := Lib.hid (List.mem_of_getElem? hx)
  have HOC : Hid (∀ (j : Nat) (u : Int), ow[j]? = some u → X0.cell? ⟨og, j, none⟩ = some (.int .i64 u)) := Lib.hid (fun j u hj => by
    have h1 := HOWN.out.cellAt j (by have := (List.getElem?_eq_some_iff.1 hj).1; have := HLEN.out; omega)
    rw [h1, List.getElem?_map, hj]; rfl)
  have HCX := Lib.hid (HOC.out _ x hx)
  have HOWR : Hid (∀ W, Keep (fun _ => False) X0 W → Calls Tryd.prog 27 #[.agg #[.int .i64 3, .slice ma mn mc, .slice (some ⟨og, 0, none⟩) 64 oc], .string ky] W fun e w' => e = .returned (.int .i64 x) ∧ Keep (fun _ => False) W w') := Lib.hid (fun W kk => by
    have h := owner_any _ 3 l ow W (HRX.out.kept kk) ky (by have := HKS0.out; omega) (HTX.out.kept kk)
    rwa [HOX.out] at h)
  have HLD : Hid (∀ W, Keep (fun _ => False) X0 W → Calls Tryd.prog 29 #[.agg #[.int .i64 3, .slice ma mn mc, .slice (some ⟨og, 0, none⟩) 64 oc], .int .i64 x] W fun e w' => e = .returned (.int .i64 (cnt ow x)) ∧ Keep (fun _ => False) W w') := Lib.hid (fun W kk => load_any _ 3 l ow W (HRX.out.kept kk) x)
  have hcn := mem_cnt_pos HXM.out
  generalize slotOf ky = s0 at *
  generalize hcxx : cnt ow x = cx at HLD hcn
  clear hcxx hx HOX
  have hs0 : (0 : Int) ≤ (s0 : Int) := by omega
  have hs1 : (s0 : Int) < 64 := by omega
  have hs2 : ¬ (63 < (s0 : Int)) := by omega
  have hs3 : ¬ ((s0 : Int) < 0) := by omega
  have hs4 : ¬ 63 < s0 := by omega
  have hcz : ¬ (cx < 1) := by omega
  have hxx : (x != x) = false := by simp
  have z0 : ∀ p : KW X0, p.val.cell? ⟨z, 0, none⟩ = some (.int .i64 3) := fun p => p.k.cell HF0.out (fun h => h)
  have z1 : ∀ p : KW X0, p.val.cell? ⟨z, 1, none⟩ = some (.slice ma mn mc) := fun p => p.k.cell HF1.out (fun h => h)
  have z2 : ∀ p : KW X0, p.val.cell? ⟨z, 2, none⟩ = some (.slice (some ⟨og, 0, none⟩) 64 oc) := fun p => p.k.cell HF2.out (fun h => h)
  have zx : ∀ p : KW X0, p.val.cell? ⟨og, s0, none⟩ = some (.int .i64 x) := fun p => p.k.cell HCX.out (fun h => h)
  go_wp2_with fail
  refine wp_region_quiet_kept (by kernel_rfl) (by kernel_rfl) ?_
  repeat (quiet_step (first | (go_at_call 29; refine Calls.kept_of (HLD.out _ (KW.k _))) | (go_at_call 27; refine Calls.kept_of (HOWR.out _ (KW.k _)))))
  refine wpQuiet_nil ?_
  rintro _ ⟨p, rfl⟩
  have HP := Lib.hid p.k
  clear z0 z1 z2 zx hs2 hs3 hs4 hcz hxx
  generalize p.val = Y0 at *
  go_wp2_with fail
  go_loopg [14, 15] ln (fun gh v14 v15 wr => ∃ (k : Nat) (b : Bool), gh + k = ln ∧ v15 = .int .i64 k ∧ v14 = .bool b ∧ Hid (b = (l.take k).any (fun m => decide (m.node = x))) ∧ Keep (fun _ => False) X0 wr)
  case atStart => exact ⟨0, false, by omega, rfl, rfl, Lib.hid (by simp), HP.out⟩
  case round =>
    clear HP
    obtain ⟨k, b, hk, rfl, rfl, HB, hkeep⟩ := hrel
    have HK := Lib.hid hkeep
    clear hkeep
    by_cases hlt : k < ln
    · obtain ⟨m, hm⟩ : ∃ m, l[k]? = some m := ⟨_, List.getElem?_eq_getElem (by have := HLN.out; omega)⟩
      have HTK : Hid (l.take (k + 1) = l.take k ++ [m]) := Lib.hid (by rw [List.take_add_one, hm]; rfl)
      have HCM := Lib.hid (HLX.out k m hm)
      have hkz : (k : Int) < (ln : Int) := by omega
      have hk0 : (0 : Int) ≤ (k : Int) := by omega
      clear hm
      obtain ⟨qn, qr, qw⟩ := m
      simp only [] at HCM
      have z0 : ∀ p : KW wr, p.val.cell? ⟨z, 0, none⟩ = some (.int .i64 3) := fun p => p.k.cell (HK.out.cell HF0.out (fun h => h)) (fun h => h)
      have z1 : ∀ p : KW wr, p.val.cell? ⟨z, 1, none⟩ = some (.slice ma mn mc) := fun p => p.k.cell (HK.out.cell HF1.out (fun h => h)) (fun h => h)
      have z2 : ∀ p : KW wr, p.val.cell? ⟨z, 2, none⟩ = some (.slice (some ⟨og, 0, none⟩) 64 oc) := fun p => p.k.cell (HK.out.cell HF2.out (fun h => h)) (fun h => h)
      have zx : ∀ p : KW wr, p.val.cell? ⟨lb, lo + k * 3, none⟩ = some (.int .i64 qn) := fun p => p.k.cell (HK.out.cell HCM.out (fun h => h)) (fun h => h)
      cases b with
      | true =>
        have HBN : Hid (true = (l.take (k + 1)).any (fun m => decide (m.node = x))) := Lib.hid (by
          rw [HTK.out, List.any_append, ← HB.out]; rfl)
        clear z0 z1 z2 zx
        go_wp2_with fail
        go_quiet (fail)
        go_wp2_with fail
        go_roundg (gk - 1)
        case rel => exact ⟨k + 1, true, by omega, by go_num, rfl, HBN, HK.out.drewN _⟩
        case measure => omega
      | false =>
        have HBN : Hid (decide (qn = x) = (l.take (k + 1)).any (fun m => decide (m.node = x))) := Lib.hid (by
          rw [HTK.out, List.any_append, ← HB.out]; simp)
        by_cases hqx : qn = x
        · have hb : (qn == x) = true := by simpa using hqx
          rw [decide_eq_true hqx] at HBN
          go_wp2_with fail
          refine wp_region_quiet_kept (by kernel_rfl) (by kernel_rfl) ?_
          repeat (quiet_step ((go_at_call 27; refine Calls.kept_of (HOWR.out _ (HK.out.trans (KW.k _))))))
          refine wpQuiet_nil ?_
          rintro _ ⟨p, rfl⟩
          have HP := Lib.hid (HK.out.trans p.k)
          clear z0 z1 z2 zx
          generalize p.val = Y1 at *
          go_wp2_with fail
          go_roundg (gk - 1)
          case rel => exact ⟨k + 1, true, by omega, by go_num, by first | rfl | (rw [hb]) | simp [hqx], HBN, HP.out⟩
          case measure => omega
        · have hb : (qn == x) = false := by simpa using hqx
          rw [decide_eq_false hqx] at HBN
          go_wp2_with fail
          refine wp_region_quiet_kept (by kernel_rfl) (by kernel_rfl) ?_
          repeat (quiet_step ((go_at_call 27; refine Calls.kept_of (HOWR.out _ (HK.out.trans (KW.k _))))))
          refine wpQuiet_nil ?_
          rintro _ ⟨p, rfl⟩
          have HP := Lib.hid (HK.out.trans p.k)
          clear z0 z1 z2 zx
          generalize p.val = Y1 at *
          go_wp2_with fail
          go_roundg (gk - 1)
          case rel => exact ⟨k + 1, false, by omega, by go_num, by first | rfl | (rw [hb]) | simp [hqx], HBN, HP.out⟩
          case measure => omega
    · obtain rfl : k = ln := by omega
      obtain rfl : b = true := by
        rw [HB.out, List.take_of_length_le (by have := HLN.out; omega), List.any_eq_true]
        obtain ⟨m, hm, e⟩ := HMEM.out x HXM.out
        exact ⟨m, hm, decide_eq_true e⟩
      go_wp2_with fail
      with_reducible refine (pick_any sl 64 _ HSL.out (by decide)).mono ?_
      rintro e w' ⟨rfl, rfl⟩
      go_wp2_with fail
      with_reducible refine (pick_any nd 26 _ HND.out (by decide)).mono ?_
      rintro e w' ⟨rfl, rfl⟩
      obtain ⟨ps, hps⟩ : ∃ s : Nat, pk sl 64 = s := ⟨(pk sl 64).toNat, by omega⟩
      have hps64 : ps < 64 := by omega
      rw [hps]
      clear hps hp1
      generalize pk nd 26 = pn at *
      obtain ⟨was, hwas⟩ : ∃ u, ow[ps]? = some u := ⟨_, List.getElem?_eq_getElem (by rw [HLEN.out]; exact hps64)⟩
      have HWAS := Lib.hid hwas
      have hq0 : (0 : Int) ≤ (ps : Int) := by omega
      have hq1 : (ps : Int) < 64 := by omega
      clear hwas
      have HOWY := Lib.hid (ownsRow_keep HOWN.out HK.out (fun _ _ h => h))
      have HMVY := Lib.hid (HMV.out.kept HK.out)
      have HMXY := Lib.hid (HMX.out.kept HK.out)
      have z0 := HK.out.cell HF0.out (fun h => h)
      have z1 := HK.out.cell HF1.out (fun h => h)
      have z2 := HK.out.cell HF2.out (fun h => h)
      have zw := HK.out.cell (HOC.out ps was HWAS.out) (fun h => h)
      have zf : ∀ o, wr.frozen? ⟨og, o, none⟩ = false := fun o => HOWY.out.frozenAt o
      have HS1 := Lib.hid (HOWY.out.stored ps (.int .i64 pn)).1
      have HKS1 : Hid (Keep (fun j => j = og) wr (wr.setCell ⟨og, ps, none⟩ (.int .i64 pn))) := Lib.hid ((Keep.refl (fun j => j = og) wr).setCell (p := ⟨og, ps, none⟩) _ (.inl rfl))
      have y0 := HKS1.out.cell z0 (fun e => HZG.out e.symm)
      have y1 := HKS1.out.cell z1 (fun e => HZG.out e.symm)
      have y2 := HKS1.out.cell z2 (fun e => HZG.out e.symm)
      go_wp2_with fail
      clear zw z0 z1 z2 zf y0 y1 y2
      have HRW : Hid (((ow.map (fun x => Value.int .i64 x)).set ps (.int .i64 pn)) = (ow.set ps pn).map (fun x => Value.int .i64 x)) := Lib.hid (by rw [List.map_set])
      have HOWZ : Hid ((wr.setCell ⟨og, ps, none⟩ (.int .i64 pn)).ownsRow W2.heap.size 3 1 (.slice (some ⟨og, 0, none⟩) 64 oc) 64 ((ow.set ps pn).map (fun x => Value.int .i64 x))) := Lib.hid (by rw [← HRW.out]; exact HS1.out)
      have HK1 := HKS1
      clear HS1 HRW HKS1
      generalize wr.setCell ⟨og, ps, none⟩ (.int .i64 pn) = Z1 at *
      have HLS : Hid ((ow.set ps pn).length = 64) := Lib.hid (by rw [List.length_set]; exact HLEN.out)
      have hpnI : I64 pn := by unfold I64; omega
      have HPNI := Lib.hid hpnI
      have HIS : Hid (∀ x ∈ ow.set ps pn, I64 x) := Lib.hid (fun x hx => by
        rcases List.mem_or_eq_of_mem_set hx with h | h
        · exact HOBD.out x h
        · rw [h]; exact HPNI.out)
      have HMVZ : Hid (Mbs Z1 (.slice ma mn mc) l) := Lib.hid (HMVY.out.keep HK1.out (fun b hb e => HMVG.out b hb e))
      have HMXZ : Hid (Mbs Z1 (.slice (some ⟨lb, lo, none⟩) k lc) l) := Lib.hid (HMXY.out.keep HK1.out (fun b hb e => by cases hb; exact HLG.out e))
      have HRZ : Hid (Rng Z1 (ringV 3 (.slice ma mn mc) (.slice (some ⟨og, 0, none⟩) 64 oc)) 3 l (ow.set ps pn)) := Lib.hid ⟨by unfold I64; omega, _, _, rfl, HMVZ.out, its_owns (by rw [HLS.out]; exact HOWZ.out) (by rw [HLS.out]; decide) HIS.out⟩
      obtain ⟨bq, hbq⟩ : ∃ bq, decide (cnt (ow.set ps pn) pn ≤ limitL l pn) = bq := ⟨_, rfl⟩
      have HVQ : Hid (validRB 3 l (ow.set ps pn) = bq) := Lib.hid (by
        rw [← hbq, eq_comm, Bool.eq_iff_iff, decide_eq_true_eq, validRB_iff]
        exact (okRing_set HOKR.out HWAS.out).symm)
      have HVC : Hid (∀ W, Keep (fun _ => False) Z1 W → Calls Tryd.prog 25 #[.agg #[.int .i64 3, .slice ma mn mc, .slice (some ⟨og, 0, none⟩) 64 oc]] W fun e w' => e = .returned (.bool bq) ∧ Keep (fun _ => False) W w') := Lib.hid (fun W kk => by
        have h := validRing_any _ 3 l _ W (HRZ.out.kept kk)
        rwa [HVQ.out] at h)
      have HLDC := Lib.hid (load_any _ 3 l _ Z1 HRZ.out pn)
      have HLMC : Hid (∀ W, Keep (fun _ => False) Z1 W → Calls Tryd.prog 21 #[.slice (some ⟨lb, lo, none⟩) k lc, .int .i64 pn] W fun e w' => e = .returned (.int .i64 (limitL l pn)) ∧ Keep (fun _ => False) W w') := Lib.hid (fun W kk => limit_any _ l W (HMXZ.out.kept kk) pn HPNI.out)
      generalize cnt (ow.set ps pn) pn = cq at *
      generalize limitL l pn = lq at *
      have Y0' := Lib.hid (HK1.out.cell (HK.out.cell HF0.out (fun h => h)) (fun e => HZG.out e.symm))
      have Y1' := Lib.hid (HK1.out.cell (HK.out.cell HF1.out (fun h => h)) (fun e => HZG.out e.symm))
      have Y2' := Lib.hid (HK1.out.cell (HK.out.cell HF2.out (fun h => h)) (fun e => HZG.out e.symm))
      with_reducible refine HLDC.out.mono ?_
      rintro e Z2 ⟨rfl, ka⟩
      have HKA := Lib.hid ka
      clear ka
      go_wp2_with fail
      with_reducible refine (HLMC.out _ HKA.out).mono ?_
      rintro e Z3 ⟨rfl, ka⟩
      have HKB := Lib.hid (HKA.out.trans ka)
      clear ka HKA
      have y0 := HKB.out.cell Y0'.out (fun h => h)
      have y1 := HKB.out.cell Y1'.out (fun h => h)
      have y2 := HKB.out.cell Y2'.out (fun h => h)
      go_wp2_with fail
      clear y0 y1 y2
      with_reducible refine (HVC.out _ HKB.out).mono ?_
      rintro e Z4 ⟨rfl, ka⟩
      have HKC := Lib.hid (HKB.out.trans ka)
      clear ka HKB
      have hbb : (bq == bq) = true := by simp
      have y0 := HKC.out.cell Y0'.out (fun h => h)
      have y1 := HKC.out.cell Y1'.out (fun h => h)
      have y2 := HKC.out.cell Y2'.out (fun h => h)
      have HOW4 := Lib.hid (ownsRow_keep HOWZ.out HKC.out (fun _ _ h => h))
      have yw : Z4.cell? ⟨og, ps, none⟩ = some (.int .i64 pn) := by
        rw [HOW4.out.cellAt ps (by omega), List.getElem?_map, List.getElem?_set_self (by rw [HLEN.out]; exact hps64)]; rfl
      have yf : ∀ o, Z4.frozen? ⟨og, o, none⟩ = false := fun o => HOW4.out.frozenAt o
      have hst : ∀ o, (Z4.setCell ⟨og, ps, none⟩ (.int .i64 was)).cell? ⟨z, o, none⟩ = Z4.cell? ⟨z, o, none⟩ := fun o => cell_set_ne (.inl HZG.out)
      have a0 := (hst 0).trans y0
      have a1 := (hst 1).trans y1
      have a2 := (hst 2).trans y2
      have HOW5 : Hid ((Z4.setCell ⟨og, ps, none⟩ (.int .i64 was)).ownsRow W2.heap.size 3 1 (.slice (some ⟨og, 0, none⟩) 64 oc) 64 (ow.map (fun x => Value.int .i64 x))) := Lib.hid (by
        have h := (HOW4.out.stored ps (.int .i64 was)).1
        rw [show ((ow.set ps pn).map (fun x => Value.int .i64 x)).set ps (.int .i64 was) = ow.map (fun x => Value.int .i64 x) by
          rw [← List.map_set (f := fun x => Value.int .i64 x), List.set_set]
          congr 1
          obtain ⟨h1, h2⟩ := List.getElem?_eq_some_iff.1 HWAS.out
          rw [← h2, List.set_getElem_self]] at h
        exact h)
      clear hst
      go_upto_region 22 with (fail)
      have HA0 := Lib.hid a0
      have HA1 := Lib.hid a1
      have HA2 := Lib.hid a2
      have HKD : Hid (Keep (fun j => j = og) Z4 (Z4.setCell ⟨og, ps, none⟩ (.int .i64 was))) := Lib.hid ((Keep.refl (fun j => j = og) Z4).setCell (p := ⟨og, ps, none⟩) _ (.inl rfl))
      clear y0 y1 y2 yw yf
      generalize Z4.setCell ⟨og, ps, none⟩ (.int .i64 was) = X5 at *
      go_upto_region 23 with (fail)
      clear a0 a1 a2
      have HB3 := Lib.hid (three_cell X5 (.int .i64 3) (.slice ma mn mc) (.slice (some ⟨og, 0, none⟩) 64 oc) 31)
      have HK56 : Hid (Keep (fun _ => False) X5 (X5.alloc (.cells #[.int .i64 3, .slice ma mn mc, .slice (some ⟨og, 0, none⟩) 64 oc] 31))) := Lib.hid ((Keep.refl _ X5).alloc _)
      generalize X5.alloc (.cells #[.int .i64 3, .slice ma mn mc, .slice (some ⟨og, 0, none⟩) 64 oc] 31) = X6 at *
      generalize hzz : X5.heap.size = zz at HB3 ⊢
      have HZZ := Lib.hid hzz
      clear hzz
      obtain ⟨i0, hi, hz0, hz1, hz2⟩ := info_parts infoInt
      obtain ⟨X7, hmk, hown7, hgr7⟩ := run_makeSlice_full (P := Tryd.prog) X6 X6.heap.size 26 3 i0 _ 1 Tryd.underlying26 hi hz0 hz1 .i64 .i64 64 (by decide) (by rw [hz2]; decide) (by decide) (Nat.le_refl _)
      have hmk' : (Instr.makeSlice 26 (.int .i64 64) (.int .i64 64)).run Tryd.prog X6 = .ok (.slice (some ⟨X6.heap.size, 0, none⟩) 64 64) X7 := hmk
      have HOWN7 : Hid (X7.ownsRow X6.heap.size 3 1 (.slice (some ⟨X6.heap.size, 0, none⟩) 64 64) 64 ((List.replicate 64 (0 : Int)).map (fun x => Value.int .i64 x))) := Lib.hid (by
        have h := hown7
        rw [show (madeCells (Value.int .i64 0).cells (64 * 1)).toList = (List.replicate 64 (0 : Int)).map (fun x => Value.int .i64 x) by
          rw [List.map_replicate]
          exact toList_madeCells_one _ _] at h
        exact h)
      have HK67 : Hid (Keep (fun _ => False) X6 X7) := Lib.hid ((Keep.of_grown hgr7).mono (fun j e => by cases e))
      clear hmk hown7 hgr7 hi hz0 hz1 hz2
      generalize hg2 : X6.heap.size = g2 at hmk' HOWN7
      have HG2 := Lib.hid hg2
      clear hg2
      have b0 := HK67.out.cell HB3.out.1 (fun h => h)
      have b1 := HK67.out.cell HB3.out.2.1 (fun h => h)
      have b2 := HK67.out.cell HB3.out.2.2.1 (fun h => h)
      have bf : ∀ o, X7.frozen? ⟨zz, o, none⟩ = false := fun o => (HK67.out.frozen (World.block_lt_of_cell? _ _ HB3.out.1) (fun h => h) o).trans (HB3.out.2.2.2 o)
      go_upto_region 24 with (fail)
      clear b0 b1 b2 bf hmk'
      have h7 := HK67.out.cell HB3.out.1 (fun h => h)
      have h8 := HK67.out.cell HB3.out.2.1 (fun h => h)
      have h9 := HK67.out.cell HB3.out.2.2.1 (fun h => h)
      have HC0 : Hid ((X7.setCell ⟨zz, 2, none⟩ (.slice (some ⟨g2, 0, none⟩) 64 64)).cell? ⟨zz, 0, none⟩ = some (.int .i64 3)) := Lib.hid ((cell_set_off (by decide)).trans h7)
      have HC1 : Hid ((X7.setCell ⟨zz, 2, none⟩ (.slice (some ⟨g2, 0, none⟩) 64 64)).cell? ⟨zz, 1, none⟩ = some (.slice ma mn mc)) := Lib.hid ((cell_set_off (by decide)).trans h8)
      have HC2 : Hid ((X7.setCell ⟨zz, 2, none⟩ (.slice (some ⟨g2, 0, none⟩) 64 64)).cell? ⟨zz, 2, none⟩ = some (.slice (some ⟨g2, 0, none⟩) 64 64)) := Lib.hid (cell_set_same h9)
      have kB : Keep (fun j => j = og) wr X5 := (HK1.out.trans (HKC.out.mono (fun _ h => h.elim))).trans HKD.out
      have kC : Keep (fun j => j = og) wr X7 := kB.trans ((HK56.out.trans HK67.out).mono (fun _ h => h.elim))
      have hzzX5 : X5.heap.size = zz := HZZ.out
      have hX6 : X6.heap.size = g2 := HG2.out
      have HKDD : Hid (Keep (fun j => j = og) wr (X7.setCell ⟨zz, 2, none⟩ (.slice (some ⟨g2, 0, none⟩) 64 64))) := Lib.hid (kC.setCell (p := ⟨zz, 2, none⟩) _ (.inr (by have := kB.size; show wr.heap.size ≤ zz; omega)))
      have kZ : Keep (fun j => j = zz) X5 (X7.setCell ⟨zz, 2, none⟩ (.slice (some ⟨g2, 0, none⟩) 64 64)) := ((HK56.out.trans HK67.out).mono (fun _ h => h.elim)).setCell (p := ⟨zz, 2, none⟩) _ (.inl rfl)
      have hzlt := World.block_lt_of_cell? _ _ HA0.out
      have hoglt := (HOW5.out.lt og rfl).2
      have hzzg : zz ≠ g2 := by have := HK56.out.size; have := World.block_lt_of_cell? _ _ HB3.out.1; simp only [] at this; omega
      have hg2gt : X5.heap.size ≤ g2 := by have := HK56.out.size; omega
      simp only [] at hzlt
      have HZ0 := Lib.hid (kZ.cell HA0.out (fun e => by have : z = zz := e; omega))
      have HZ1 := Lib.hid (kZ.cell HA1.out (fun e => by have : z = zz := e; omega))
      have HZ2 := Lib.hid (kZ.cell HA2.out (fun e => by have : z = zz := e; omega))
      have HOG8 := Lib.hid (ownsRow_keep HOW5.out kZ (fun b hb e => by cases hb; have : og = zz := e; omega))
      have HG28 := Lib.hid (ownsRow_keep HOWN7.out ((Keep.refl (fun j => j = zz) X7).setCell (p := ⟨zz, 2, none⟩) (.slice (some ⟨g2, 0, none⟩) 64 64) (.inl rfl)) (fun b hb e => by cases hb; exact hzzg e.symm))
      have HNEG : Hid (og ≠ g2 ∧ z ≠ g2 ∧ zz ≠ g2) := Lib.hid ⟨by omega, by omega, hzzg⟩
      have hX8 : X5.heap.size ≤ (X7.setCell ⟨zz, 2, none⟩ (.slice (some ⟨g2, 0, none⟩) 64 64)).heap.size := kZ.size
      have HBASE : Hid (wr.heap.size ≤ g2) := Lib.hid (by have := kB.size; omega)
      clear h7 h8 h9 kB kC kZ hzzX5 hX6 hzlt hoglt hzzg hX8 hg2gt HOW5 HOWN7 HB3 HA0 HA1 HA2
      generalize X7.setCell ⟨zz, 2, none⟩ (.slice (some ⟨g2, 0, none⟩) 64 64) = X8 at *
      have HMV8 := Lib.hid (HMVY.out.keep HKDD.out (fun b hb e => HMVG.out b hb e))
      have HMX8 := Lib.hid (HMXY.out.keep HKDD.out (fun b hb e => by cases hb; exact HLG.out e))
      obtain ⟨m0, hm0⟩ : ∃ m, l[0]? = some m := ⟨_, List.getElem?_eq_getElem (by have := HLN.out; omega)⟩
      obtain ⟨n0, hn0⟩ : ∃ n, m0.node = n := ⟨_, rfl⟩
      have HL08 : Hid (X8.cell? ⟨lb, lo, none⟩ = some (.int .i64 n0)) := Lib.hid (by
        have h := HKDD.out.cell (HK.out.cell (HLX.out 0 m0 hm0) (fun h => h)) (fun e => HLG.out e)
        rw [Nat.zero_mul, Nat.add_zero, hn0] at h
        exact h)
      have HN0I : Hid (I64 n0) := Lib.hid (by rw [← hn0]; exact (HV.out.bd m0 (List.mem_of_getElem? hm0)).1)
      have HLG2 : Hid (lb ≠ g2) := Lib.hid (by
        have h := World.block_lt_of_cell? _ _ (HLX.out 0 m0 hm0)
        simp only [] at h
        have := HK.out.size
        have := HBASE.out
        omega)
      have HMG2 : Hid (∀ b, (Value.slice ma mn mc).ownBlock = some b → b ≠ g2) := Lib.hid (fun b hb => by
        obtain ⟨-, -, a, c, b', off, he, hc, ha, hcell⟩ := HMVY.out
        have ha' := ha (by have := HLN.out; omega)
        obtain ⟨h1, _, _⟩ := Value.slice.inj he
        rw [h1, ha'] at hb
        cases hb
        have h := World.block_lt_of_cell? _ _ (hcell 0 m0 hm0).1
        simp only [] at h
        have := HBASE.out
        show b' ≠ g2
        omega)
      clear hm0 hn0
      go_wp2_with fail
      go_loopg [20] 64 (fun gh v20 wr2 => ∃ (q : Nat), gh + q = 64 ∧ v20 = .int .i64 q ∧ wr2.ownsRow g2 3 1 (.slice (some ⟨g2, 0, none⟩) 64 64) 64 ((List.replicate q n0 ++ List.replicate (64 - q) 0).map (fun x => Value.int .i64 x)) ∧ Keep (fun j => j = g2) X8 wr2)
      case atStart => exact ⟨0, by omega, rfl, by simpa [HG2.out] using HG28.out, Keep.refl _ _⟩
      case round =>
        clear HG28
        obtain ⟨q, hq, rfl, how, hkp⟩ := hrel
        have HOWQ := Lib.hid how
        have HKQ := Lib.hid hkp
        clear how hkp
        by_cases hlt : q < 64
        · have hqz : (q : Int) < 64 := by omega
          have hq0' : (0 : Int) ≤ (q : Int) := by omega
          have hkpos : (0 : Int) < (k : Int) := by omega
          have cz2 : ∀ p : KA (fun j => j = g2) wr, p.val.cell? ⟨zz, 2, none⟩ = some (.slice (some ⟨g2, 0, none⟩) 64 64) := fun p => p.k.cell (HKQ.out.cell HC2.out (fun e => HNEG.out.2.2 e)) (fun e => HNEG.out.2.2 e)
          have cl : ∀ p : KA (fun j => j = g2) wr, p.val.cell? ⟨lb, lo, none⟩ = some (.int .i64 n0) := fun p => p.k.cell (HKQ.out.cell HL08.out (fun e => HLG2.out e)) (fun e => HLG2.out e)
          go_upto_region 27 with (fail)
          refine wp_region_walk [(true, 0), (true, 1), (true, 2), (true, 3), (true, 4), (true, 5), (true, 6), (true, 7), (false, 8)] (inKA (fun j => j = g2) wr) (by kernel_rfl) (by kernel_rfl) ?_
          iterate 8 (refine walkW_read rfl (fun K hK => ?_); go_simp; refine hK _ ?_; clear hK K)
          clear cz2 cl
          have HKR : Hid (Keep (fun j => j = g2) wr wr.drew) := Lib.hid (Keep.refl _ wr).drew
          have HOWD := Lib.hid (ownsRow_keep HOWQ.out ((Keep.refl (fun _ => False) wr).drew) (fun _ _ h => h))
          generalize wr.drew = Q0 at *
          have gq : Q0.cell? ⟨g2, q, none⟩ = some (.int .i64 0) := by
            rw [HOWD.out.cellAt q (by omega), List.getElem?_map, List.getElem?_append_right (by simp), List.length_replicate, List.getElem?_replicate, if_pos (by omega)]
            rfl
          have gqf : ∀ o, Q0.frozen? ⟨g2, o, none⟩ = false := fun o => HOWD.out.frozenAt o
          refine walkW_do rfl (inKA.of HKR.out) (fun K hK => ?_)
          go_simp
          refine hK _ _ ?_; clear hK K
          have HOW8 : Hid ((Q0.setCell ⟨g2, q, none⟩ (.int .i64 n0)).ownsRow g2 3 1 (.slice (some ⟨g2, 0, none⟩) 64 64) 64 ((List.replicate (q + 1) n0 ++ List.replicate (64 - (q + 1)) 0).map (fun x => Value.int .i64 x))) := Lib.hid (by
            have h := (HOWD.out.stored q (.int .i64 n0)).1
            rw [← List.map_set (f := fun x => Value.int .i64 x)] at h
            have e : (List.replicate q n0 ++ List.replicate (64 - q) 0).set q n0 = List.replicate (q + 1) n0 ++ List.replicate (64 - (q + 1)) 0 := by
              rw [List.set_append_right _ _ (by simp), List.length_replicate, Nat.sub_self, show 64 - q = (64 - (q + 1)) + 1 by omega, List.replicate_succ, List.set_cons_zero, List.replicate_succ', List.append_assoc]
              rfl
            rw [e] at h
            exact h)
          have HKS : Hid (Keep (fun j => j = g2) wr (Q0.setCell ⟨g2, q, none⟩ (.int .i64 n0))) := Lib.hid (HKR.out.setCell (p := ⟨g2, q, none⟩) _ (.inl rfl))
          clear gq gqf
          generalize Q0.setCell ⟨g2, q, none⟩ (.int .i64 n0) = Q1 at *
          refine ⟨inKA.of HKS.out, ?_⟩
          go_wp2_with fail
          go_roundg (gk - 1)
          case rel => exact ⟨q + 1, by omega, by go_num, HOW8.out, HKQ.out.trans HKS.out⟩
          case measure => omega
        · obtain rfl : q = 64 := by omega
          have HROW : Hid (wr.ownsRow g2 3 1 (.slice (some ⟨g2, 0, none⟩) 64 64) 64 ((List.replicate 64 n0).map (fun x => Value.int .i64 x))) := Lib.hid (by
            have h := HOWQ.out
            rw [show 64 - 64 = 0 from rfl, List.replicate_zero, List.append_nil] at h
            exact h)
          have HOGF := Lib.hid (ownsRow_keep HOG8.out HKQ.out (fun b hb e => by cases hb; exact HNEG.out.1 e))
          have HMVF := Lib.hid (HMV8.out.keep HKQ.out (fun b hb e => HMG2.out b hb e))
          have HMXF := Lib.hid (HMX8.out.keep HKQ.out (fun b hb e => by cases hb; exact HLG2.out e))
          have HRF : Hid (Rng wr (ringV 3 (.slice ma mn mc) (.slice (some ⟨og, 0, none⟩) 64 oc)) 3 l ow) := Lib.hid ⟨by unfold I64; omega, _, _, rfl, HMVF.out, its_owns (by rw [HLEN.out]; exact HOGF.out) (by rw [HLEN.out]; decide) HOBD.out⟩
          have HAF : Hid (Rng wr (ringV 3 (.slice ma mn mc) (.slice (some ⟨g2, 0, none⟩) 64 64)) 3 l (List.replicate 64 n0)) := Lib.hid ⟨by unfold I64; omega, _, _, rfl, HMVF.out, its_owns (by rw [List.length_replicate]; exact HROW.out) (by rw [List.length_replicate]; decide) (fun x hx => by rw [List.eq_of_mem_replicate hx]; exact HN0I.out)⟩
          obtain ⟨bz, hbz⟩ : ∃ bz, decide (64 ≤ limitL l n0) = bz := ⟨_, rfl⟩
          have HVA : Hid (validRB 3 l (List.replicate 64 n0) = bz) := Lib.hid (by
            rw [← hbz, Bool.eq_iff_iff, decide_eq_true_eq, validRB_iff]
            exact okRing_all (by decide) (by decide) HV.out)
          have HV1 : Hid (∀ W, Keep (fun _ => False) wr W → Calls Tryd.prog 25 #[.agg #[.int .i64 3, .slice ma mn mc, .slice (some ⟨og, 0, none⟩) 64 oc]] W fun e w' => e = .returned (.bool true) ∧ Keep (fun _ => False) W w') := Lib.hid (fun W kk => by
            have h := validRing_any _ 3 l _ W (HRF.out.kept kk)
            rwa [HVB.out] at h)
          have HV2 : Hid (∀ W, Keep (fun _ => False) wr W → Calls Tryd.prog 25 #[.agg #[.int .i64 3, .slice ma mn mc, .slice (some ⟨g2, 0, none⟩) 64 64]] W fun e w' => e = .returned (.bool bz) ∧ Keep (fun _ => False) W w') := Lib.hid (fun W kk => by
            have h := validRing_any _ 3 l _ W (HAF.out.kept kk)
            rwa [HVA.out] at h)
          have HLZ : Hid (∀ W, Keep (fun _ => False) wr W → Calls Tryd.prog 21 #[.slice (some ⟨lb, lo, none⟩) k lc, .int .i64 n0] W fun e w' => e = .returned (.int .i64 (limitL l n0)) ∧ Keep (fun _ => False) W w') := Lib.hid (fun W kk => limit_any _ l W (HMXF.out.kept kk) n0 HN0I.out)
          generalize limitL l n0 = lz at *
          have hbb2 : (bz == bz) = true := by simp
          have hkpos : (0 : Int) < (k : Int) := by omega
          have z0 : ∀ p : KW wr, p.val.cell? ⟨z, 0, none⟩ = some (.int .i64 3) := fun p => p.k.cell (HKQ.out.cell HZ0.out (fun e => HNEG.out.2.1 e)) (fun h => h)
          have z1 : ∀ p : KW wr, p.val.cell? ⟨z, 1, none⟩ = some (.slice ma mn mc) := fun p => p.k.cell (HKQ.out.cell HZ1.out (fun e => HNEG.out.2.1 e)) (fun h => h)
          have z2 : ∀ p : KW wr, p.val.cell? ⟨z, 2, none⟩ = some (.slice (some ⟨og, 0, none⟩) 64 oc) := fun p => p.k.cell (HKQ.out.cell HZ2.out (fun e => HNEG.out.2.1 e)) (fun h => h)
          have y0 : ∀ p : KW wr, p.val.cell? ⟨zz, 0, none⟩ = some (.int .i64 3) := fun p => p.k.cell (HKQ.out.cell HC0.out (fun e => HNEG.out.2.2 e)) (fun h => h)
          have y1 : ∀ p : KW wr, p.val.cell? ⟨zz, 1, none⟩ = some (.slice ma mn mc) := fun p => p.k.cell (HKQ.out.cell HC1.out (fun e => HNEG.out.2.2 e)) (fun h => h)
          have y2 : ∀ p : KW wr, p.val.cell? ⟨zz, 2, none⟩ = some (.slice (some ⟨g2, 0, none⟩) 64 64) := fun p => p.k.cell (HKQ.out.cell HC2.out (fun e => HNEG.out.2.2 e)) (fun h => h)
          have cl : ∀ p : KW wr, p.val.cell? ⟨lb, lo, none⟩ = some (.int .i64 n0) := fun p => p.k.cell (HKQ.out.cell HL08.out (fun e => HLG2.out e)) (fun h => h)
          have HFIN : Hid (Keep (fun _ => False) w wr) := Lib.hid (((HKX.out.trans HK.out).trans' HKDD.out (fun i e => .inr (by have h1 := HGL.out.1; have h2 := HK2.out.size; have : i = og := e; omega))).trans' HKQ.out (fun i e => .inr (by have h1 := HBASE.out; have h2 := (HKX.out.trans HK.out).size; have : i = g2 := e; omega)))
          clear hbb
          go_upto_region 28 with (fail)
          refine wp_region_quiet_kept (by kernel_rfl) (by kernel_rfl) ?_
          repeat (quiet_step (first | (go_at_call 25; with_reducible refine Calls.kept_of (HV1.out _ (KW.k _))) | (go_at_call 25; with_reducible refine Calls.kept_of (HV2.out _ (KW.k _))) | (go_at_call 21; with_reducible refine Calls.kept_of (HLZ.out _ (KW.k _)))))
          refine wpQuiet_nil ?_
          rintro _ ⟨p, rfl⟩
          go_wp2_with fail
          go_ret
          exact ⟨by first | rfl | simp, HFIN.out.trans p.k⟩
end Go.Proofs.YtplkmbfeeegaiaaDoor
