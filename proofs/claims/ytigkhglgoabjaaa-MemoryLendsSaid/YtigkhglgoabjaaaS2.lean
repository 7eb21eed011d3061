/-
  MemoryLends: the walk.
-/
import Derived.Test.YtigkhglgoabjaaaS1
namespace Go.Proofs.Ytigkhglgoabjaaa
open Go.RowKit Go.Shelf

theorem StrsAt.cell {W : World} {a : Option Addr} {n c : Nat} {xs : List ByteArray} (h : StrsAt W (.slice a n c) xs) {j : Nat} {s : ByteArray} (hj : xs[j]? = some s) : ∃ b off, a = some ⟨b, off, none⟩ ∧ W.cell? ⟨b, off + j, none⟩ = some (.string s) := by
  obtain ⟨a', c', e, h⟩ := h
  cases e
  exact h j s hj
theorem used_eq {w : World} {p : Nat} {cap : Int} {sh : List Int} {L : List E} {S : Side} {W : World} {t : Nat} {u : Int} (h : LW w p cap sh L S W) (ht : t < sh.length) (e : usedOf L t = u) : Calls Try.prog 19 #[ptr p, .int .i64 (t : Int)] W fun e W' => e = .returned (.int .i64 u) ∧ W = W' := by
  rw [← e, ← usedI_nat (sh := sh) L ht]
  exact used_lw _ h

set_option maxRecDepth 100000 in
set_option maxHeartbeats 1000000 in
theorem lends_some (c : Int) (a : Option Addr) (n cp : Nat) (xs : List Int) (lb lo ln lc : Nat) (f : Nat → Nat → Int) (w : World) (h1 : -9223372036854775808 ≤ c) (h2 : c ≤ 9223372036854775807) (hn : xs.length = n) (hn2 : n ≤ 9223372036854775807) (hx : RowIn w a xs) (hw : ∀ x ∈ xs, -9223372036854775808 ≤ x ∧ x ≤ 9223372036854775807)
    (hl : ln ≤ 9223372036854775807) (hst : Steps w lb lo ln f) :
    Calls Try.prog 4 #[.int .i64 c, .slice a n cp, .slice (some ⟨lb, lo, none⟩) ln lc] w fun e w' => e = .returned (.bool true) ∧ Below w.heap.size w w' := by
  have HX := Lib.hid hx; clear hx
  have HN := Lib.hid hn; clear hn
  have HW := Lib.hid hw; clear hw
  have HST := Lib.hid hst; clear hst
  go_enter Try.func4, Try.ntmps4
  go_wp2_with fail
  with_reducible refine (sane_any _).mono ?_
  rintro e W1 ⟨rfl, k⟩
  have K1 := Lib.hid k
  clear k
  go_wp2_with fail
  with_reducible refine (begin_any c a n cp xs _ h1 h2 HN.out hn2 (HX.out.keep K1.out) HW.out).mono ?_
  rintro e W2 hb
  obtain ⟨b, p, g, cp', rfl, hlw⟩ := hb.lw
  clear hb
  have HL : Hid (ShaR w b p g cp' (capOf c) (sharesOf c xs) W2) := Lib.hid ⟨[], hlw.base K1.out⟩
  have HSO := Lib.hid (sharesOf_ok c xs)
  have HCB := Lib.hid (capOf_bd c)
  clear hlw
  generalize sharesOf c xs = sh at *
  generalize capOf c = cap at *
  clear HX HN HW
  have HWA : Hid (∀ W, (Side.world b p g cp' cap sh).Q W → WorldAt W b p g cp' cap sh) := Lib.hid (fun _ h => h)
  go_wp2_with fail
  go_loopw [10] (fun i wr => ∃ k : Nat, k ≤ ln ∧ k ≤ 60 ∧ i = .int .i64 k ∧ ShaR w b p g cp' cap sh wr) (fun i _ => 60 - (intOf i).toNat)
  case atStart => exact ⟨0, by omega, by omega, rfl, HL.out⟩
  case round =>
    obtain ⟨k, hk, hk6, rfl, L, hlw⟩ := hrel
    have HLW := Lib.hid hlw
    clear hlw
    by_cases hlt : k < ln ∧ k < 60
    · obtain ⟨hlt, hlt6⟩ := hlt
      have hc2 := HLW.out.k.cell (HST.out.cell k 2 hlt (by omega)) (fun h => h)
      go_wp2_with fail
      with_reducible refine (name_any _ _ (HST.out.lo k 2) (HST.out.hi k 2)).mono ?_
      rintro e W3 ⟨rfl, k3⟩
      have HLW3 := Lib.hid (HLW.out.keep k3)
      clear hc2 HLW k3
      have hkey : (nm (f k 2)).size ≤ maxLen := one_small _
      have HK := Lib.hid hkey
      clear hkey
      generalize nm (f k 2) = key at *
      have hc0 := HLW3.out.k.cell (HST.out.cell k 0 hlt (by omega)) (fun h => h)
      have hc1 := HLW3.out.k.cell (HST.out.cell k 1 hlt (by omega)) (fun h => h)
      have hw0 := HLW3.out.q.c0
      have hw2 := HLW3.out.q.c2
      rw [Nat.add_zero] at hc0
      go_wp2_with fail
      obtain ⟨q, hq, hq8⟩ := pk_lit (f k 0) 8 (by omega)
      with_reducible refine (pick_lit (f k 0) 8 q _ (HST.out.lo k 0) (HST.out.hi k 0) (by omega) (by omega) hq).mono ?_
      rintro e w' ⟨rfl, rfl⟩
      clear hq
      by_cases hq0 : q = 0
      · subst hq0
        go_wp2_with fail
        with_reducible refine (touch_lw _ HLW3.out HK.out).mono ?_
        rintro e W7 ⟨rfl, h⟩
        have HLW7 := Lib.hid h
        clear h HLW3 hw0 hc0 hc1 hw2
        go_wp2_with fail
        go_roundw
        case rel => exact ⟨k + 1, by omega, by omega, by go_num, _, HLW7.out⟩
        case measure => simp [intOf]; omega
      · have hq0' : ((q : Int) == 0) = false := by simp; omega
        -- REST
        go_wp2_with fail
        have hm1 := HSO.out.2.1
        have hm2 := HSO.out.2.2
        obtain ⟨t, ht, htm⟩ := pk_nat (f k 1) sh.length (by omega)
        have HT := Lib.hid ht
        clear ht
        go_quiet ((go_at_call 14; exact quiet_same (pick_nat _ _ _ _ (HST.out.lo k 1) (HST.out.hi k 1) (by omega) (by omega) HT.out)))
        have HLW5 := Lib.hid (HLW3.out.keep ((Keep.refl _ W3).drewN nq))
        clear HLW3 hc1 hc0 hw0 hw2
        generalize W3.drewN nq = W5 at *
        have hw0 := HLW5.out.q.c0
        have hc3 := HLW5.out.k.cell (HST.out.cell k 3 hlt (by omega)) (fun h => h)
        have hpb := pk_bd (f k 3) 12 (by omega)
        go_wp2_with fail
        with_reducible refine (pick_any _ _ _ (HST.out.lo k 3) (HST.out.hi k 3) (by omega) (by omega)).mono ?_
        rintro e w' ⟨rfl, rfl⟩
        obtain ⟨z, hz⟩ : ∃ z, 1 + pk (f k 3) 12 = z := ⟨_, rfl⟩
        have hz1 : 1 ≤ z := by omega
        have hz2 : z ≤ 12 := by omega
        have HZ := Lib.hid hz
        clear hz
        go_wp2_with fail
        with_reducible refine (remove_lw _ HLW5.out HK.out).mono ?_
        rintro e W6 ⟨rfl, h⟩
        have HLW6 := Lib.hid h
        clear h HLW5 hw0 hc3
        have HNK : Hid (∀ x ∈ woE L key, x.key ≠ key) := Lib.hid (fun x hx => (woE_mem hx).2)
        generalize woE L key = L1 at *
        have hw0 := HLW6.out.q.c0
        have hsn := HLW6.out.sane
        have hle := hsn.le
        have hcap := hsn.cap
        have ht0 := tot_nonneg L1 (fun x hx => (hsn.rng x hx).2)
        have hub := used_bd hsn t
        have HOND := Lib.hid (keysOf_nodup hsn.keys (t : Int))
        have HLS := Lib.hid (lends_step hsn HNK.out htm hz1)
        clear hsn
        go_wp2_with fail
        with_reducible refine (free_lw HLW6.out).mono ?_
        rintro e w' ⟨rfl, rfl⟩
        go_wp2_with fail
        with_reducible refine (used_lw _ HLW6.out).mono ?_
        rintro e w' ⟨rfl, rfl⟩
        rw [usedI_nat L1 htm]
        go_wp2_with fail
        with_reducible refine (keys_lw _ HLW6.out).mono ?_
        rintro e W7 ⟨aK, cK, rfl, h, _⟩
        have HLW7 := Lib.hid h
        clear h HLW6 hw0
        have hw0 := HLW7.out.q.1.c0
        have hkl : (keysOf L1 (t : Int)).length ≤ 1000000 := by
          have := keysOf_length L1 (t : Int)
          have h2 := length_le_tot L1 (fun x hx => (HLW7.out.sane.rng x hx).2)
          omega
        rw [HZ.out]
        clear HZ hpb
        go_wp2_with fail
        with_reducible refine (put_lw _ _ _ HLW7.out HK.out (by omega)).mono ?_
        rintro e W8 ⟨a8, c8, rfl, h⟩
        clear HLW7 hw0
        generalize keysOf L1 (t : Int) = own at *
        generalize hno : own.length = no at *
        have HNO := Lib.hid hno
        clear hno
        generalize putI cap sh L1 (t : Int) key z = r at *
        obtain ⟨d, T, M⟩ := r
        simp only at HLS h ⊢
        have HLW8 := Lib.hid h
        clear h
        have HOL : Hid ((T.map E.key).length = T.length) := Lib.hid (by simp)
        generalize T.map E.key = out at *
        have HLA : Hid (z ≤ cap - tot L1 → d = true ∧ T.length = 0) := Lib.hid (fun h => ⟨(HLS.out.1 h).1, by rw [(HLS.out.1 h).2]; rfl⟩)
        have HLB := Lib.hid HLS.out.2.1
        have HLC := Lib.hid HLS.out.2.2.1
        have hnT := HLS.out.2.2.2
        clear HLS
        generalize T.length = nT at *
        generalize hum : usedOf M t = um at *
        have HUM := Lib.hid hum
        clear hum
        generalize usedOf L1 t = u1 at *
        by_cases hzf : z ≤ cap - tot L1
        · have hzd : decide (z ≤ cap - tot L1) = true := by simpa using hzf
          obtain ⟨hd, hn0⟩ := HLA.out hzf
          subst hd
          have hn0' : decide (0 < (nT : Int)) = false := by simp; omega
          have hnle : nT ≤ 0 := by omega
          clear hn0
          generalize tot L1 = tl at *
          go_wp2_with fail
          go_loopw [19, 20] (fun mi jv W9 => ∃ j : Nat, j ≤ nT ∧ jv = .int .i64 j ∧ mi = .int .i64 ((mn own (out.take j) : Nat) : Int) ∧ LW w p cap sh M (((Side.world b p g cp' cap sh).and (.strs (.slice aK no cK) own)).and (.strs (.slice a8 nT c8) out)) W9) (fun _ jv _ => nT - (intOf jv).toNat)
          case atStart => exact ⟨0, by omega, rfl, rfl, HLW8.out⟩
          case round =>
            obtain ⟨j, hj, rfl, rfl, h⟩ := hrel
            have HLWj := Lib.hid h
            clear h HLW8
            have hmj := mn_le HOND.out (out.take j)
            rw [List.length_take] at hmj
            by_cases hjl : j < nT
            · have hgj : out[j]? = some (out.getD j ⟨#[]⟩) := by rw [List.getD_eq_getElem?_getD, List.getElem?_eq_getElem (by have := HOL.out; omega)]; rfl
              obtain ⟨b8, o8, rfl, hc8⟩ := HLWj.out.q.2.cell hgj
              clear hc8
              have HMT := Lib.hid (mn_take own out hgj)
              have HGJ := Lib.hid hgj
              clear hgj
              generalize out.getD j ⟨#[]⟩ = y at *
              go_wp2_with fail
              go_loopw [19, 21] (fun mi mv W9 => ∃ m : Nat, m ≤ no ∧ mv = .int .i64 m ∧ mi = .int .i64 ((mn own (out.take j) + cnt (own.take m) y : Nat) : Int) ∧ LW w p cap sh M (((Side.world b p g cp' cap sh).and (.strs (.slice aK no cK) own)).and (.strs (.slice (some ⟨b8, o8, none⟩) nT c8) out)) W9) (fun _ mv _ => no - (intOf mv).toNat)
              case atStart => exact ⟨0, by omega, rfl, by simp [cnt], HLWj.out⟩
              case round =>
                obtain ⟨m, hm, rfl, rfl, h⟩ := hrel
                have HLWm := Lib.hid h
                clear h HLWj
                have hcm := cnt_take_le own HOND.out y m
                by_cases hml : m < no
                · have hgo : own[m]? = some (own.getD m ⟨#[]⟩) := by rw [List.getD_eq_getElem?_getD, List.getElem?_eq_getElem (by have := HNO.out; omega)]; rfl
                  obtain ⟨bK, oK, rfl, hcK⟩ := HLWm.out.q.1.2.cell hgo
                  have hcy := (HLWm.out.q.2.cell HGJ.out)
                  obtain ⟨b8', o8', e8, hcy⟩ := hcy
                  injection e8 with e8
                  injection e8 with e8a e8b
                  subst e8a e8b
                  have HCT := Lib.hid (cnt_take own y hgo)
                  clear hgo
                  generalize own.getD m ⟨#[]⟩ = x at *
                  by_cases hxy : x = y
                  · have hbe : (x.toList == y.toList) = true := by rw [hxy]; simp
                    have HC1 : Hid (cnt (own.take (m + 1)) y = cnt (own.take m) y + 1) := Lib.hid (by rw [HCT.out, if_pos hxy])
                    clear hxy HCT
                    go_wp2_with fail
                    go_quiet (fail)
                    have HLWn := Lib.hid (HLWm.out.keep ((Keep.refl _ _).drewN nq))
                    go_wp2_with fail
                    go_roundw
                    case rel => exact ⟨m + 1, by omega, by go_num, by rw [HC1.out]; go_num, HLWn.out⟩
                    case measure => simp [intOf]; omega
                  · have hbe : (x.toList == y.toList) = false := by
                      rw [beq_eq_false_iff_ne]
                      intro e
                      exact hxy (toList_inj e)
                    have HC1 : Hid (cnt (own.take (m + 1)) y = cnt (own.take m) y) := Lib.hid (by rw [HCT.out, if_neg hxy]; rfl)
                    clear hxy HCT
                    go_wp2_with fail
                    go_quiet (fail)
                    have HLWn := Lib.hid (HLWm.out.keep ((Keep.refl _ _).drewN nq))
                    go_wp2_with fail
                    go_roundw
                    case rel => exact ⟨m + 1, by omega, by go_num, by rw [HC1.out]; go_num, HLWn.out⟩
                    case measure => simp [intOf]; omega
                · have HM2 : Hid (own.take m = own) := Lib.hid (List.take_of_length_le (by have := HNO.out; omega))
                  go_wp2_with fail
                  go_roundw
                  case rel => exact ⟨j + 1, by omega, by go_num, by rw [HMT.out]; first | (rw [HM2.out]; done) | (rw [HM2.out]; go_num) | go_num, HLWm.out⟩
                  case measure => simp [intOf]; omega
            · have hjo : out.take j = out := List.take_of_length_le (by have := HOL.out; omega)
              rw [hjo] at hmj
              rw [hjo]
              clear hjo
              generalize mn own out = mm at *
              have HLWx := HLWj
              clear HLWj
              have hw0 := HLWx.out.q.1.1.c0
              have hw2 := HLWx.out.q.1.1.c2
              have hsx := HLWx.out.q.1.1.sh t (sh.getD t 0) (by rw [List.getD_eq_getElem?_getD, List.getElem?_eq_getElem htm]; rfl)
              rw [Nat.zero_add] at hsx
              generalize sh.getD t 0 = s at *
              go_wp2_with fail
              by_cases hu : u1 + z ≤ s
              · have hud : decide (u1 + z ≤ s) = true := by simpa using hu
                have hm0 := HLB.out hu
                have hmd : decide (0 < mm) = false := by simp; omega
                have hmd' : decide (0 < (mm : Int)) = false := by simp; omega
                by_cases hs : s < um
                · have hsd : decide (s < um) = true := by simpa using hs
                  have hmt := HLC.out (by trivial) hs
                  have hne : ((mm : Int) != (nT : Int)) = false := by simp; omega
                  clear hmt hm0
                  go_quiet ((go_at_call 19; exact quiet_same (used_eq (HLWx.out.keep ((Keep.refl _ _).drewN _)) htm HUM.out)))
                  have HLWf := Lib.hid (HLWx.out.keep ((Keep.refl _ _).drewN nq))
                  go_wp2_with fail
                  go_roundw
                  case rel => exact ⟨k + 1, by omega, by omega, by go_num, M, HLWf.out.left.left⟩
                  case measure => simp [intOf]; omega
                · have hsd : decide (s < um) = false := by simpa using hs
                  clear hm0
                  go_quiet ((go_at_call 19; exact quiet_same (used_eq (HLWx.out.keep ((Keep.refl _ _).drewN _)) htm HUM.out)))
                  have HLWf := Lib.hid (HLWx.out.keep ((Keep.refl _ _).drewN nq))
                  go_wp2_with fail
                  go_roundw
                  case rel => exact ⟨k + 1, by omega, by omega, by go_num, M, HLWf.out.left.left⟩
                  case measure => simp [intOf]; omega
              · have hud : decide (u1 + z ≤ s) = false := by simpa using hu
                by_cases hs : s < um
                · have hsd : decide (s < um) = true := by simpa using hs
                  have hmt := HLC.out (by trivial) hs
                  have hne : ((mm : Int) != (nT : Int)) = false := by simp; omega
                  clear hmt
                  go_quiet ((go_at_call 19; exact quiet_same (used_eq (HLWx.out.keep ((Keep.refl _ _).drewN _)) htm HUM.out)))
                  have HLWf := Lib.hid (HLWx.out.keep ((Keep.refl _ _).drewN nq))
                  go_wp2_with fail
                  go_roundw
                  case rel => exact ⟨k + 1, by omega, by omega, by go_num, M, HLWf.out.left.left⟩
                  case measure => simp [intOf]; omega
                · have hsd : decide (s < um) = false := by simpa using hs
                  go_quiet ((go_at_call 19; exact quiet_same (used_eq (HLWx.out.keep ((Keep.refl _ _).drewN _)) htm HUM.out)))
                  have HLWf := Lib.hid (HLWx.out.keep ((Keep.refl _ _).drewN nq))
                  go_wp2_with fail
                  go_roundw
                  case rel => exact ⟨k + 1, by omega, by omega, by go_num, M, HLWf.out.left.left⟩
                  case measure => simp [intOf]; omega
        · have hzd : decide (z ≤ cap - tot L1) = false := by simpa using hzf
          generalize tot L1 = tl at *
          go_wp2_with fail
          go_loopw [19, 20] (fun mi jv W9 => ∃ j : Nat, j ≤ nT ∧ jv = .int .i64 j ∧ mi = .int .i64 ((mn own (out.take j) : Nat) : Int) ∧ LW w p cap sh M (((Side.world b p g cp' cap sh).and (.strs (.slice aK no cK) own)).and (.strs (.slice a8 nT c8) out)) W9) (fun _ jv _ => nT - (intOf jv).toNat)
          case atStart => exact ⟨0, by omega, rfl, rfl, HLW8.out⟩
          case round =>
            obtain ⟨j, hj, rfl, rfl, h⟩ := hrel
            have HLWj := Lib.hid h
            clear h HLW8
            have hmj := mn_le HOND.out (out.take j)
            rw [List.length_take] at hmj
            by_cases hjl : j < nT
            · have hgj : out[j]? = some (out.getD j ⟨#[]⟩) := by rw [List.getD_eq_getElem?_getD, List.getElem?_eq_getElem (by have := HOL.out; omega)]; rfl
              obtain ⟨b8, o8, rfl, hc8⟩ := HLWj.out.q.2.cell hgj
              clear hc8
              have HMT := Lib.hid (mn_take own out hgj)
              have HGJ := Lib.hid hgj
              clear hgj
              generalize out.getD j ⟨#[]⟩ = y at *
              go_wp2_with fail
              go_loopw [19, 21] (fun mi mv W9 => ∃ m : Nat, m ≤ no ∧ mv = .int .i64 m ∧ mi = .int .i64 ((mn own (out.take j) + cnt (own.take m) y : Nat) : Int) ∧ LW w p cap sh M (((Side.world b p g cp' cap sh).and (.strs (.slice aK no cK) own)).and (.strs (.slice (some ⟨b8, o8, none⟩) nT c8) out)) W9) (fun _ mv _ => no - (intOf mv).toNat)
              case atStart => exact ⟨0, by omega, rfl, by simp [cnt], HLWj.out⟩
              case round =>
                obtain ⟨m, hm, rfl, rfl, h⟩ := hrel
                have HLWm := Lib.hid h
                clear h HLWj
                have hcm := cnt_take_le own HOND.out y m
                by_cases hml : m < no
                · have hgo : own[m]? = some (own.getD m ⟨#[]⟩) := by rw [List.getD_eq_getElem?_getD, List.getElem?_eq_getElem (by have := HNO.out; omega)]; rfl
                  obtain ⟨bK, oK, rfl, hcK⟩ := HLWm.out.q.1.2.cell hgo
                  have hcy := (HLWm.out.q.2.cell HGJ.out)
                  obtain ⟨b8', o8', e8, hcy⟩ := hcy
                  injection e8 with e8
                  injection e8 with e8a e8b
                  subst e8a e8b
                  have HCT := Lib.hid (cnt_take own y hgo)
                  clear hgo
                  generalize own.getD m ⟨#[]⟩ = x at *
                  by_cases hxy : x = y
                  · have hbe : (x.toList == y.toList) = true := by rw [hxy]; simp
                    have HC1 : Hid (cnt (own.take (m + 1)) y = cnt (own.take m) y + 1) := Lib.hid (by rw [HCT.out, if_pos hxy])
                    clear hxy HCT
                    go_wp2_with fail
                    go_quiet (fail)
                    have HLWn := Lib.hid (HLWm.out.keep ((Keep.refl _ _).drewN nq))
                    go_wp2_with fail
                    go_roundw
                    case rel => exact ⟨m + 1, by omega, by go_num, by rw [HC1.out]; go_num, HLWn.out⟩
                    case measure => simp [intOf]; omega
                  · have hbe : (x.toList == y.toList) = false := by
                      rw [beq_eq_false_iff_ne]
                      intro e
                      exact hxy (toList_inj e)
                    have HC1 : Hid (cnt (own.take (m + 1)) y = cnt (own.take m) y) := Lib.hid (by rw [HCT.out, if_neg hxy]; rfl)
                    clear hxy HCT
                    go_wp2_with fail
                    go_quiet (fail)
                    have HLWn := Lib.hid (HLWm.out.keep ((Keep.refl _ _).drewN nq))
                    go_wp2_with fail
                    go_roundw
                    case rel => exact ⟨m + 1, by omega, by go_num, by rw [HC1.out]; go_num, HLWn.out⟩
                    case measure => simp [intOf]; omega
                · have HM2 : Hid (own.take m = own) := Lib.hid (List.take_of_length_le (by have := HNO.out; omega))
                  go_wp2_with fail
                  go_roundw
                  case rel => exact ⟨j + 1, by omega, by go_num, by rw [HMT.out]; first | (rw [HM2.out]; done) | (rw [HM2.out]; go_num) | go_num, HLWm.out⟩
                  case measure => simp [intOf]; omega
            · have hjo : out.take j = out := List.take_of_length_le (by have := HOL.out; omega)
              rw [hjo] at hmj
              rw [hjo]
              clear hjo
              generalize mn own out = mm at *
              have HLWx := HLWj
              clear HLWj
              have hw0 := HLWx.out.q.1.1.c0
              have hw2 := HLWx.out.q.1.1.c2
              have hsx := HLWx.out.q.1.1.sh t (sh.getD t 0) (by rw [List.getD_eq_getElem?_getD, List.getElem?_eq_getElem htm]; rfl)
              rw [Nat.zero_add] at hsx
              generalize sh.getD t 0 = s at *
              go_wp2_with fail
              by_cases hu : u1 + z ≤ s
              · have hud : decide (u1 + z ≤ s) = true := by simpa using hu
                have hm0 := HLB.out hu
                have hmd : decide (0 < mm) = false := by simp; omega
                have hmd' : decide (0 < (mm : Int)) = false := by simp; omega
                cases d with
                | false =>
                  go_quiet (fail)
                  have HLWf := Lib.hid (HLWx.out.keep ((Keep.refl _ _).drewN nq))
                  go_wp2_with fail
                  go_roundw
                  case rel => exact ⟨k + 1, by omega, by omega, by go_num, M, HLWf.out.left.left⟩
                  case measure => simp [intOf]; omega
                | true =>
                  by_cases hs : s < um
                  · have hsd : decide (s < um) = true := by simpa using hs
                    have hmt := HLC.out (by trivial) hs
                    have hne : ((mm : Int) != (nT : Int)) = false := by simp; omega
                    clear hmt hm0
                    go_quiet ((go_at_call 19; exact quiet_same (used_eq (HLWx.out.keep ((Keep.refl _ _).drewN _)) htm HUM.out)))
                    have HLWf := Lib.hid (HLWx.out.keep ((Keep.refl _ _).drewN nq))
                    go_wp2_with fail
                    go_roundw
                    case rel => exact ⟨k + 1, by omega, by omega, by go_num, M, HLWf.out.left.left⟩
                    case measure => simp [intOf]; omega
                  · have hsd : decide (s < um) = false := by simpa using hs
                    clear hm0
                    go_quiet ((go_at_call 19; exact quiet_same (used_eq (HLWx.out.keep ((Keep.refl _ _).drewN _)) htm HUM.out)))
                    have HLWf := Lib.hid (HLWx.out.keep ((Keep.refl _ _).drewN nq))
                    go_wp2_with fail
                    go_roundw
                    case rel => exact ⟨k + 1, by omega, by omega, by go_num, M, HLWf.out.left.left⟩
                    case measure => simp [intOf]; omega
              · have hud : decide (u1 + z ≤ s) = false := by simpa using hu
                cases d with
                | false =>
                  go_quiet (fail)
                  have HLWf := Lib.hid (HLWx.out.keep ((Keep.refl _ _).drewN nq))
                  go_wp2_with fail
                  go_roundw
                  case rel => exact ⟨k + 1, by omega, by omega, by go_num, M, HLWf.out.left.left⟩
                  case measure => simp [intOf]; omega
                | true =>
                  by_cases hs : s < um
                  · have hsd : decide (s < um) = true := by simpa using hs
                    have hmt := HLC.out (by trivial) hs
                    have hne : ((mm : Int) != (nT : Int)) = false := by simp; omega
                    clear hmt
                    go_quiet ((go_at_call 19; exact quiet_same (used_eq (HLWx.out.keep ((Keep.refl _ _).drewN _)) htm HUM.out)))
                    have HLWf := Lib.hid (HLWx.out.keep ((Keep.refl _ _).drewN nq))
                    go_wp2_with fail
                    go_roundw
                    case rel => exact ⟨k + 1, by omega, by omega, by go_num, M, HLWf.out.left.left⟩
                    case measure => simp [intOf]; omega
                  · have hsd : decide (s < um) = false := by simpa using hs
                    go_quiet ((go_at_call 19; exact quiet_same (used_eq (HLWx.out.keep ((Keep.refl _ _).drewN _)) htm HUM.out)))
                    have HLWf := Lib.hid (HLWx.out.keep ((Keep.refl _ _).drewN nq))
                    go_wp2_with fail
                    go_roundw
                    case rel => exact ⟨k + 1, by omega, by omega, by go_num, M, HLWf.out.left.left⟩
                    case measure => simp [intOf]; omega
    · by_cases hkn : k < ln
      · go_wp2_with fail
        go_ret
        exact ⟨rfl, HLW.out.k.low⟩
      · go_wp2_with fail
        go_ret
        exact ⟨rfl, HLW.out.k.low⟩
end Go.Proofs.Ytigkhglgoabjaaa
