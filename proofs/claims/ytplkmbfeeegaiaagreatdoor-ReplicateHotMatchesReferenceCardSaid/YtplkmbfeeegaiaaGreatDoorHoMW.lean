/-
  ReplicateHotMatchesReference.
-/
import Derived.Test.YtplkmbfeeegaiaaGreatDoorHoMP
namespace Go.Proofs.YtplkmbfeeegaiaaGreatDoor
open Go.RowKit Go.Shelf

set_option maxRecDepth 100000 in
set_option maxHeartbeats 8000000 in
theorem repHotMatches_any (kk : Int) (v : Value) (ps : List (Int × Int)) (share : Int) (w : World) (hkk : I64 kk) (h : Uses w v ps) (hsh : I64 share) (hT : Tab w) (_hP : Pow w) : Calls Tryz.prog 6 #[.int .i64 kk, v, .int .i64 share] w fun e w' => e = .returned (.bool true) ∧ Keep (fun _ => False) w w' := by
  have HT := Lib.hid hT
  have HKK := Lib.hid hkk
  have HSH := Lib.hid hsh
  obtain ⟨hpn, hpb, pa, pc, pb, po, rfl, hpc, hpa, hpcell⟩ := h
  have HPB := Lib.hid hpb
  have HPA := Lib.hid hpa
  have HPC := Lib.hid hpcell
  obtain ⟨pn, hpn'⟩ : ∃ n, ps.length = n := ⟨_, rfl⟩
  have HPN := Lib.hid hpn'
  rw [hpn'] at hpn hpc HPA ⊢
  clear hT hkk hsh hpb hpa hpcell hpn'
  have hp1 := pk_bd kk 8 (by decide)
  have hp2 := pk_bd share 100 (by decide)
  have HPK := Lib.hid (fun W => pick15_any kk 8 W HKK.out (by decide))
  have HPS := Lib.hid (fun W => pick15_any share 100 W HSH.out (by decide))
  go_enter Tryz.func6, Tryz.ntmps6
  go_wp2_with fail
  with_reducible refine (sane15_any w HT.out).mono ?_
  rintro e W1 ⟨rfl, k1⟩
  have HK1 := Lib.hid k1
  clear k1
  generalize pk kk 8 = p at *
  obtain ⟨pq, rfl⟩ : ∃ q : Nat, p = q := ⟨p.toNat, by omega⟩
  obtain ⟨cap, hcap⟩ : ∃ c : Nat, 1 + pq = c := ⟨_, rfl⟩
  have hw1 : IntKind.i64.wrap (1 + (pq : Int)) = (cap : Int) := by rw [show (1 : Int) + (pq : Int) = (cap : Int) by omega]; exact wrapI (by unfold I64; omega)
  have hcap8 : 1 ≤ cap ∧ cap ≤ 8 := by omega
  generalize pk share 100 = ss at *
  obtain ⟨sh, hsh⟩ : ∃ sh : Int, 1 + ss = sh := ⟨_, rfl⟩
  have hw2 : IntKind.i64.wrap (1 + ss) = sh := by rw [hsh]; exact wrapI (by unfold I64; omega)
  clear hsh
  go_wp2_with fail
  with_reducible refine (HPK.out W1).mono ?_
  rintro e w' ⟨rfl, rfl⟩
  go_wp2_with fail
  have hnew := Sk.new_ok cap hcap8.1 (by omega) W1
  with_reducible refine hnew.mono ?_
  clear hnew
  rintro e W2 ⟨s, bm, rfl, hsk, k2, hs, hbm⟩
  have HS2 := Lib.hid hsk
  have HK2 := Lib.hid (HK1.out.trans k2)
  have HZS : Hid (w.heap.size ≤ s ∧ w.heap.size ≤ bm) := Lib.hid (by have := HK1.out.size; omega)
  clear hsk k2 hs hbm HK1
  go_wp2_with fail
  have hnew := Sk.rnew_ok cap hcap8.1 (by omega) W2
  with_reducible refine hnew.mono ?_
  clear hnew
  rintro e W3 ⟨r, rfl, hrf, k3, hr⟩
  have HRF3 := Lib.hid hrf
  have HS3 : Hid (Sk.Sk W3 s bm cap []) := Lib.hid (HS2.out.keep k3 (fun h => h) (fun h => h))
  have HK3 := Lib.hid (HK2.out.trans k3)
  have HGS : Hid (s < r ∧ bm < r) := Lib.hid (by have h1 := HS2.out.at_.lt.1; have h2 := HS2.out.at_.lt.2; omega)
  have HGW : Hid (w.heap.size ≤ r) := Lib.hid (by have := HK2.out.size; omega)
  clear hrf k3 hr HS2 HK2
  go_wp2_with fail
  go_loopg [12] 40 (fun gh v12 wr => ∃ (k : Nat) (L : List Sk.C) (vr : Value), gh + k = 40 ∧ v12 = .int .i64 k ∧ Sk.Sk wr s bm cap L ∧ Sk.Rf wr r vr cap (L.map Sk.ctrOf) ∧ (∀ b, vr.ownBlock = some b → b ≠ s ∧ b ≠ bm) ∧ Keep (fun j => j = s ∨ j = bm ∨ j = r) W3 wr ∧ Sk.sumH L ≤ 1000000000 * k)
  case atStart => exact ⟨0, [], .slice none 0 0, by omega, rfl, HS3.out, HRF3.out, (by intro b hb; cases hb), Keep.refl _ _, by simp [Sk.sumH]⟩
  case round =>
    clear HS3 HRF3
    obtain ⟨k, L, vr, hk, rfl, hsk, hrf, hvb, hkeep, hsum⟩ := hrel
    have HSK := Lib.hid hsk
    have HRF := Lib.hid hrf
    have HVB := Lib.hid hvb
    have HKE := Lib.hid hkeep
    have HSUM := Lib.hid hsum
    have HKW : Hid (Keep (fun _ => False) w wr) := Lib.hid (HK3.out.trans' hkeep (fun j e => .inr (by have := HZS.out; have := HGW.out; rcases e with e | e | e <;> omega)))
    clear hsk hrf hvb hkeep hsum
    by_cases hlt : k < pn ∧ k < 40
    · obtain ⟨hltp, hlt6⟩ := hlt
      obtain ⟨pr, hpr⟩ : ∃ x, ps[k]? = some x := ⟨_, List.getElem?_eq_getElem (by rw [HPN.out]; exact hltp)⟩
      obtain rfl := HPA.out (by omega)
      obtain ⟨c0, c1⟩ := HPC.out k pr hpr
      replace c0 := HKW.out.cell c0 (fun h => h)
      replace c1 := HKW.out.cell c1 (fun h => h)
      obtain ⟨hb0, hb1⟩ := HPB.out pr (List.mem_of_getElem? hpr)
      obtain ⟨pk0, pn0⟩ := pr
      simp only [] at c0 c1 hb0 hb1
      have HB0 := Lib.hid hb0
      have HB1 := Lib.hid hb1
      have HC0 : Hid (w.cell? ⟨pb, po + k * 2, none⟩ = some (.int .i64 pk0)) := Lib.hid (HPC.out k (pk0, pn0) hpr).1
      have hq1 := pk_bd pk0 10 (by decide)
      have hn1 := pk_bd pn0 1000000000 (by decide)
      have hkz : (k : Int) < (pn : Int) := by omega
      have hk6 : (k : Int) < 40 := by omega
      have hk0 : (0 : Int) ≤ (k : Int) := by omega
      clear hpr hb0 hb1
      go_wp2_with fail
      with_reducible refine (pick15_any pn0 1000000000 wr HB1.out (by decide)).mono ?_
      rintro e w' ⟨rfl, rfl⟩
      generalize pk pn0 1000000000 = n1 at *
      obtain ⟨nn, hnn⟩ : ∃ n, 1 + n1 = n := ⟨_, rfl⟩
      have hw3 : IntKind.i64.wrap (1 + n1) = nn := by rw [hnn]; exact wrapI (by unfold I64; omega)
      have hnn1 : 1 ≤ nn ∧ nn ≤ 1000000000 := by omega
      clear hnn
      have HKEY := Lib.hid (fun W => key15_any pk0 HB0.out W)
      generalize pk pk0 10 = qq at *
      obtain ⟨q, rfl⟩ : ∃ q : Nat, qq = q := ⟨qq.toNat, by omega⟩
      rw [Int.toNat_natCast] at HKEY
      have hq10 : q < 10 := by omega
      have HKSZ : Hid ((keyT q).size ≤ 8) := Lib.hid (keyT_size hq10)
      generalize keyT q = ky at *
      go_wp2_with fail
      with_reducible refine (HKEY.out wr).mono ?_
      rintro e V1 ⟨rfl, k1⟩
      have HSK1 : Hid (Sk.Sk V1 s bm cap L) := Lib.hid (HSK.out.keep k1 (fun h => h) (fun h => h))
      have HRF1 := Lib.hid (HRF.out.kept k1)
      have HKE1 : Hid (Keep (fun j => j = s ∨ j = bm ∨ j = r) W3 V1) := Lib.hid (HKE.out.trans (k1.mono (fun _ h => h.elim)))
      clear k1 c0 c1 HSK HKE HRF hw3 HKW
      have HADD := Lib.hid (Sk.add_ok HSK1.out ky (by have := HKSZ.out; unfold maxLen; omega) nn (by omega) (by omega) (by have := HSUM.out; omega))
      have HSUM2 : Hid (Sk.sumH (Sk.addC cap L ky nn) = Sk.sumH L + nn) := Lib.hid (Sk.addC_sum HSK1.out.ok ky nn)
      have HRADD : Hid (∀ W, Sk.Rf W r vr cap (L.map Sk.ctrOf) → Calls Tryz.prog 45 #[ptr r, .string ky, .int .i64 nn] W (Sk.RPost W r cap (Sk.addC cap L ky nn))) := Lib.hid (fun W h => Sk.radd_ok h HSK1.out.ok ky nn (by omega) (by omega) (by have := HSUM.out; omega))
      generalize Sk.addC cap L ky nn = L2 at *
      go_wp2_with fail
      with_reducible refine HADD.out.mono ?_
      rintro e V2 ⟨rfl, hsk2, k2⟩
      have HSK2 := Lib.hid hsk2
      have HRF2 : Hid (Sk.Rf V2 r vr cap (L.map Sk.ctrOf)) := Lib.hid (HRF1.out.keep k2 (fun e => by have := HGS.out; rcases e with e | e <;> omega) (fun b hb e => by have := HVB.out b hb; rcases e with e | e <;> omega))
      have HKE2 : Hid (Keep (fun j => j = s ∨ j = bm ∨ j = r) W3 V2) := Lib.hid (HKE1.out.trans (k2.mono (fun j e => by rcases e with e | e; exact .inl e; exact .inr (.inl e))))
      have HKW2 : Hid (Keep (fun _ => False) w V2) := Lib.hid (HK3.out.trans' HKE2.out (fun j e => .inr (by have := HZS.out; have := HGW.out; rcases e with e | e | e <;> omega)))
      have c0 := HKW2.out.cell HC0.out (fun h => h)
      clear hsk2 k2 HSK1 HRF1 HKE1 HADD HKW2
      go_wp2_with fail
      clear c0
      with_reducible refine (HKEY.out V2).mono ?_
      rintro e V3 ⟨rfl, k3⟩
      have HSK3 : Hid (Sk.Sk V3 s bm cap L2) := Lib.hid (HSK2.out.keep k3 (fun h => h) (fun h => h))
      have HRF3 := Lib.hid (HRF2.out.kept k3)
      have HKE3 : Hid (Keep (fun j => j = s ∨ j = bm ∨ j = r) W3 V3) := Lib.hid (HKE2.out.trans (k3.mono (fun _ h => h.elim)))
      clear k3 HSK2 HKE2 HRF2
      go_wp2_with fail
      with_reducible refine (HRADD.out V3 HRF3.out).mono ?_
      rintro e V4 ⟨vr', rfl, hrf4, k4, hvb4⟩
      have HSK4 : Hid (Sk.Sk V4 s bm cap L2) := Lib.hid (HSK3.out.keep k4 (fun e => by have h5 : s = r := e; have := HGS.out; omega) (fun e => by have h5 : bm = r := e; have := HGS.out; omega))
      have HRF4 := Lib.hid hrf4
      have HKE4 : Hid (Keep (fun j => j = s ∨ j = bm ∨ j = r) W3 V4) := Lib.hid (HKE3.out.trans (k4.mono (fun j e => .inr (.inr e))))
      have HVB4 : Hid (∀ b, vr'.ownBlock = some b → b ≠ s ∧ b ≠ bm) := Lib.hid (fun b hb => by have h1 := hvb4 b hb; have h2 := HSK3.out.at_.lt; omega)
      clear hrf4 k4 hvb4 HSK3 HKE3 HRF3
      go_wp2_with fail
      go_roundg (40 - (k + 1))
      case rel => exact ⟨k + 1, L2, vr', by omega, by go_num, HSK4.out, HRF4.out, HVB4.out, HKE4.out, by rw [HSUM2.out]; have := HSUM.out; omega⟩
      case measure => omega
    · have HOK := Lib.hid HSK.out.ok
      have HHOT : Hid (∀ W, Keep (fun _ => False) wr W → ∀ sr, Calls Tryz.prog 47 #[ptr s, .int .i64 sr] W (HotPost W (hotL L sr))) := Lib.hid (fun W k sr => hot_sk (HSK.out.keep k (fun h => h) (fun h => h)) (by have := HOK.out.len; omega) sr)
      have HREF : Hid (∀ W, Keep (fun _ => False) wr W → ∀ sr, Calls Tryz.prog 48 #[ptr r, .int .i64 sr] W (HotPost W (hotL L sr))) := Lib.hid (fun W k sr => refHot_sk (HRF.out.kept k) HOK.out sr)
      have HSS : Hid (∀ va vb X W, Strs W va X → Strs W vb X → Calls Tryz.prog 46 #[va, vb] W fun e w' => e = .returned (.bool true) ∧ Keep (fun _ => False) W w') := Lib.hid (fun va vb X W a b => by
        have := sameStrs_any va vb X X W a b
        rwa [decide_eq_true rfl] at this)
      by_cases hkp : k < pn
      · have hkz : (k : Int) < (pn : Int) := by omega
        have hk6 : ¬ (k : Int) < 40 := by omega
        go_wp2_with fail
        with_reducible refine (HHOT.out wr (Keep.refl _ wr) share).mono ?_
        rintro e V1 ⟨u1, rfl, hu1, kk⟩
        have HU1 := Lib.hid hu1
        have HKV1 := Lib.hid kk
        clear hu1 kk
        go_wp2_with fail
        with_reducible refine (HREF.out V1 HKV1.out share).mono ?_
        rintro e V2 ⟨u2, rfl, hu2, kk⟩
        have HU2 := Lib.hid hu2
        have HU12 := Lib.hid (HU1.out.kept kk)
        have HKV2 := Lib.hid (HKV1.out.trans kk)
        clear hu2 kk HU1 HKV1
        go_wp2_with fail
        with_reducible refine (HSS.out _ _ _ V2 HU12.out HU2.out).mono ?_
        rintro e V3 ⟨rfl, kk⟩
        have HKV3 := Lib.hid (HKV2.out.trans kk)
        clear kk HU12 HU2 HKV2
        go_wp2_with fail
        with_reducible refine (HPS.out V3).mono ?_
        rintro e w' ⟨rfl, rfl⟩
        go_wp2_with fail
        with_reducible refine (HHOT.out V3 HKV3.out sh).mono ?_
        rintro e V4 ⟨u4, rfl, hu4, kk⟩
        have HU4 := Lib.hid hu4
        have HKV4 := Lib.hid (HKV3.out.trans kk)
        clear hu4 kk HKV3
        go_wp2_with fail
        with_reducible refine (HPS.out V4).mono ?_
        rintro e w' ⟨rfl, rfl⟩
        go_wp2_with fail
        with_reducible refine (HREF.out V4 HKV4.out sh).mono ?_
        rintro e V5 ⟨u5, rfl, hu5, kk⟩
        have HU5 := Lib.hid hu5
        have HU45 := Lib.hid (HU4.out.kept kk)
        have HKV5 := Lib.hid (HKV4.out.trans kk)
        clear hu5 kk HU4 HKV4
        go_wp2_with fail
        with_reducible refine (HSS.out _ _ _ V5 HU45.out HU5.out).mono ?_
        rintro e V6 ⟨rfl, kk⟩
        have HKF := Lib.hid (HKW.out.trans (HKV5.out.trans kk))
        clear kk
        go_wp2_with fail
        go_ret
        exact ⟨rfl, HKF.out⟩
      · have hkz : ¬ (k : Int) < (pn : Int) := by omega
        go_wp2_with fail
        with_reducible refine (HHOT.out wr (Keep.refl _ wr) share).mono ?_
        rintro e V1 ⟨u1, rfl, hu1, kk⟩
        have HU1 := Lib.hid hu1
        have HKV1 := Lib.hid kk
        clear hu1 kk
        go_wp2_with fail
        with_reducible refine (HREF.out V1 HKV1.out share).mono ?_
        rintro e V2 ⟨u2, rfl, hu2, kk⟩
        have HU2 := Lib.hid hu2
        have HU12 := Lib.hid (HU1.out.kept kk)
        have HKV2 := Lib.hid (HKV1.out.trans kk)
        clear hu2 kk HU1 HKV1
        go_wp2_with fail
        with_reducible refine (HSS.out _ _ _ V2 HU12.out HU2.out).mono ?_
        rintro e V3 ⟨rfl, kk⟩
        have HKV3 := Lib.hid (HKV2.out.trans kk)
        clear kk HU12 HU2 HKV2
        go_wp2_with fail
        with_reducible refine (HPS.out V3).mono ?_
        rintro e w' ⟨rfl, rfl⟩
        go_wp2_with fail
        with_reducible refine (HHOT.out V3 HKV3.out sh).mono ?_
        rintro e V4 ⟨u4, rfl, hu4, kk⟩
        have HU4 := Lib.hid hu4
        have HKV4 := Lib.hid (HKV3.out.trans kk)
        clear hu4 kk HKV3
        go_wp2_with fail
        with_reducible refine (HPS.out V4).mono ?_
        rintro e w' ⟨rfl, rfl⟩
        go_wp2_with fail
        with_reducible refine (HREF.out V4 HKV4.out sh).mono ?_
        rintro e V5 ⟨u5, rfl, hu5, kk⟩
        have HU5 := Lib.hid hu5
        have HU45 := Lib.hid (HU4.out.kept kk)
        have HKV5 := Lib.hid (HKV4.out.trans kk)
        clear hu5 kk HU4 HKV4
        go_wp2_with fail
        with_reducible refine (HSS.out _ _ _ V5 HU45.out HU5.out).mono ?_
        rintro e V6 ⟨rfl, kk⟩
        have HKF := Lib.hid (HKW.out.trans (HKV5.out.trans kk))
        clear kk
        go_wp2_with fail
        go_ret
        exact ⟨rfl, HKF.out⟩
end Go.Proofs.YtplkmbfeeegaiaaGreatDoor
