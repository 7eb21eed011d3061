/-
  MemoryGuarantees: the walk.
-/
import Derived.Test.YtigkhglgoabjaaaN4
namespace Go.Proofs.Ytigkhglgoabjaaa
open Go.RowKit Go.Shelf

/-- The relation of the loop. -/
def GuaR (w : World) (b p g cp : Nat) (cap : Int) (sh : List Int) (W : World) : Prop :=
  ∃ L, LW w p cap sh L (.world b p g cp cap sh) W ∧ ∀ x ∈ L, x.z = 1

set_option maxRecDepth 100000 in
set_option maxHeartbeats 1000000 in
theorem guar_some (c : Int) (a : Option Addr) (n cp : Nat) (xs : List Int) (lb lo ln lc : Nat) (f : Nat → Nat → Int) (w : World) (h1 : -9223372036854775808 ≤ c) (h2 : c ≤ 9223372036854775807) (hn : xs.length = n) (hn2 : n ≤ 9223372036854775807) (hx : RowIn w a xs) (hw : ∀ x ∈ xs, -9223372036854775808 ≤ x ∧ x ≤ 9223372036854775807)
    (hl : ln ≤ 9223372036854775807) (hst : Steps w lb lo ln f) :
    Calls Try.prog 5 #[.int .i64 c, .slice a n cp, .slice (some ⟨lb, lo, none⟩) ln lc] w fun e w' => e = .returned (.bool true) ∧ Below w.heap.size w w' := by
  have HX := Lib.hid hx; clear hx
  have HN := Lib.hid hn; clear hn
  have HW := Lib.hid hw; clear hw
  have HST := Lib.hid hst; clear hst
  go_enter Try.func5, Try.ntmps5
  go_wp2_with fail
  with_reducible refine (sane_any _).mono ?_
  rintro e W1 ⟨rfl, k⟩
  have K1 := Lib.hid k
  clear k
  go_wp2_with fail
  with_reducible refine (begin_any c a n cp xs _ h1 h2 HN.out hn2 (HX.out.keep K1.out) HW.out).mono ?_
  rintro e W2 hb
  obtain ⟨b, p, g, cp', rfl, hlw⟩ := hb.lw
  clear hb
  have HL : Hid (GuaR w b p g cp' (capOf c) (sharesOf c xs) W2) := Lib.hid ⟨[], hlw.base K1.out, fun x hx => by cases hx⟩
  have HSO := Lib.hid (sharesOf_ok c xs)
  have HCB := Lib.hid (capOf_bd c)
  clear hlw
  generalize sharesOf c xs = sh at *
  generalize capOf c = cap at *
  clear HX HN HW
  go_wp2_with fail
  go_loopw [10] (fun i wr => ∃ k : Nat, k ≤ ln ∧ k ≤ 60 ∧ i = .int .i64 k ∧ GuaR w b p g cp' cap sh wr) (fun i _ => 60 - (intOf i).toNat)
  case atStart => exact ⟨0, by omega, by omega, rfl, HL.out⟩
  case round =>
    obtain ⟨k, hk, hk6, rfl, L, hlw, h1z⟩ := hrel
    have HZ := Lib.hid h1z
    have HLW := Lib.hid hlw
    clear h1z hlw
    by_cases hlt : k < ln ∧ k < 60
    · obtain ⟨hlt, hlt6⟩ := hlt
      have hc2 := HLW.out.k.cell (HST.out.cell k 2 hlt (by omega)) (fun h => h)
      have hb2 := pk_bd (f k 2) 40 (by omega)
      have hcv := fun n => conv_one wr n
      go_wp2_with fail
      with_reducible refine (pick_any _ _ _ (HST.out.lo k 2) (HST.out.hi k 2) (by omega) (by omega)).mono ?_
      rintro e w' ⟨rfl, rfl⟩
      go_wp2_with fail
      generalize pk (f k 2) 40 = kk at *
      have HLW3 := Lib.hid (HLW.out.keep ((Keep.refl _ wr).alloc (.cells #[.int .u8 kk] 5)))
      clear hc2 hcv HLW hb2
      generalize wr.alloc (.cells #[.int .u8 kk] 5) = W3 at *
      have hc1 := HLW3.out.k.cell (HST.out.cell k 1 hlt (by omega)) (fun h => h)
      have hw0 := HLW3.out.q.c0
      have hw2 := HLW3.out.q.c2
      have hm1 := HSO.out.2.1
      have hm2 := HSO.out.2.2
      obtain ⟨t, ht, htm⟩ := pk_nat (f k 1) sh.length (by omega)
      have HT := Lib.hid ht
      clear ht
      go_quiet ((go_at_call 14; exact quiet_same (pick_nat _ _ _ _ (HST.out.lo k 1) (HST.out.hi k 1) (by omega) (by omega) HT.out)))
      have HLW4 := Lib.hid (HLW3.out.keep ((Keep.refl _ W3).drewN nq))
      clear HLW3 hc1 hw0 hw2
      generalize W3.drewN nq = W4 at *
      have hw0 := HLW4.out.q.c0
      have hw2 := HLW4.out.q.c2
      have hsane := HLW4.out.sane
      obtain ⟨hg1, hg2, hg3⟩ := guar_step hsane HZ.out (Int.le_trans (sharesOk_sum _ _ HSO.out.1 (by have := HCB.out; omega)) (Int.le_refl _)) (one kk) htm
      have hub : 0 ≤ usedOf L t ∧ usedOf L t ≤ 1000000 := by
        have a1 := usedOf_nonneg L t (fun x hx => (hsane.rng x hx).2)
        have a2 := usedOf_le_tot L t (fun x hx => (hsane.rng x hx).2)
        have := hsane.le
        have := hsane.cap
        omega
      have HSA := Lib.hid hsane
      have HG1 := Lib.hid hg1
      have HG2 := Lib.hid hg2
      have HG3 := Lib.hid hg3
      clear hsane hg1 hg2 hg3
      have hsc : W4.cell? ⟨g, t, none⟩ = some (.int .i64 (sh.getD t 0)) := by
        have := HLW4.out.q.sh t (sh.getD t 0) (by rw [List.getD_eq_getElem?_getD, List.getElem?_eq_getElem htm]; rfl)
        rw [Nat.zero_add] at this
        exact this
      go_wp2_with fail
      with_reducible refine (used_lw _ HLW4.out).mono ?_
      rintro e w' ⟨rfl, rfl⟩
      rw [usedI_nat L htm]
      go_wp2_with fail
      with_reducible refine (tenant_lw _ HLW4.out (one_small _)).mono ?_
      rintro e w' ⟨rfl, rfl⟩
      by_cases hten : tenI L (one kk) = t
      · have hd : (tenI L (one kk) == (t : Int)) = true := by simpa using hten
        have HTE := Lib.hid hten
        clear hten
        go_wp2_with fail
        with_reducible refine (put_lw _ _ _ HLW4.out (one_small _) (by omega)).mono ?_
        rintro e W5 ⟨a5, c5, rfl, h⟩
        clear hw0 hw2 hsc HLW4
        generalize putI cap sh L (t : Int) (one kk) 1 = r at *
        obtain ⟨d, T, M⟩ := r
        simp only at HG1 HG2 HG3 h ⊢
        have HLW5 := Lib.hid h.left
        clear h
        have hw0 := HLW5.out.q.c0
        have hw2 := HLW5.out.q.c2
        have hsc : W5.cell? ⟨g, t, none⟩ = some (.int .i64 (sh.getD t 0)) := by
          have := HLW5.out.q.sh t (sh.getD t 0) (by rw [List.getD_eq_getElem?_getD, List.getElem?_eq_getElem htm]; rfl)
          rw [Nat.zero_add] at this
          exact this
        generalize sh.getD t 0 = s at *
        have HU : Hid (usedOf L t - 1 + 1 ≤ s → d = true) := Lib.hid (fun h => HG1.out (by rw [if_pos HTE.out]; omega))
        clear HG1
        by_cases hle : usedOf L t - 1 + 1 ≤ s
        · obtain rfl : d = true := HU.out hle
          have hle' : decide (usedOf L t - 1 + 1 ≤ s) = true := by simpa using hle
          have hT : tenI M (one kk) = t := by have := HG2.out; simpa using this.symm
          have hTT : (tenI M (one kk) == (t : Int)) = true := by simpa using hT
          clear hT
          go_wp2_with fail
          with_reducible refine (tenant_lw _ HLW5.out (one_small _)).mono ?_
          rintro e w' ⟨rfl, rfl⟩
          go_wp2_with fail
          go_roundw
          case rel => exact ⟨k + 1, by omega, by omega, by go_num, M, HLW5.out, HG3.out⟩
          case measure => simp [intOf]; omega
        · have hle' : decide (usedOf L t - 1 + 1 ≤ s) = false := by simpa using hle
          cases d with
          | true =>
            have hT : tenI M (one kk) = t := by have := HG2.out; simpa using this.symm
            have hTT : (tenI M (one kk) == (t : Int)) = true := by simpa using hT
            clear hT
            go_wp2_with fail
            with_reducible refine (tenant_lw _ HLW5.out (one_small _)).mono ?_
            rintro e w' ⟨rfl, rfl⟩
            go_wp2_with fail
            go_roundw
            case rel => exact ⟨k + 1, by omega, by omega, by go_num, M, HLW5.out, HG3.out⟩
            case measure => simp [intOf]; omega
          | false =>
            have hT : ¬ tenI M (one kk) = t := by have := HG2.out; simpa using this.symm
            have hTT : (tenI M (one kk) == (t : Int)) = false := by simpa using hT
            clear hT
            go_wp2_with fail
            with_reducible refine (tenant_lw _ HLW5.out (one_small _)).mono ?_
            rintro e w' ⟨rfl, rfl⟩
            go_wp2_with fail
            go_roundw
            case rel => exact ⟨k + 1, by omega, by omega, by go_num, M, HLW5.out, HG3.out⟩
            case measure => simp [intOf]; omega
      · have hd : (tenI L (one kk) == (t : Int)) = false := by simpa using hten
        have HTE := Lib.hid hten
        clear hten
        go_wp2_with fail
        with_reducible refine (put_lw _ _ _ HLW4.out (one_small _) (by omega)).mono ?_
        rintro e W5 ⟨a5, c5, rfl, h⟩
        clear hw0 hw2 hsc HLW4
        generalize putI cap sh L (t : Int) (one kk) 1 = r at *
        obtain ⟨d, T, M⟩ := r
        simp only at HG1 HG2 HG3 h ⊢
        have HLW5 := Lib.hid h.left
        clear h
        have hw0 := HLW5.out.q.c0
        have hw2 := HLW5.out.q.c2
        have hsc : W5.cell? ⟨g, t, none⟩ = some (.int .i64 (sh.getD t 0)) := by
          have := HLW5.out.q.sh t (sh.getD t 0) (by rw [List.getD_eq_getElem?_getD, List.getElem?_eq_getElem htm]; rfl)
          rw [Nat.zero_add] at this
          exact this
        generalize sh.getD t 0 = s at *
        have HU : Hid (usedOf L t + 1 ≤ s → d = true) := Lib.hid (fun h => HG1.out (by rw [if_neg HTE.out]; omega))
        clear HG1
        by_cases hle : usedOf L t + 1 ≤ s
        · obtain rfl : d = true := HU.out hle
          have hle' : decide (usedOf L t + 1 ≤ s) = true := by simpa using hle
          have hT : tenI M (one kk) = t := by have := HG2.out; simpa using this.symm
          have hTT : (tenI M (one kk) == (t : Int)) = true := by simpa using hT
          clear hT
          go_wp2_with fail
          with_reducible refine (tenant_lw _ HLW5.out (one_small _)).mono ?_
          rintro e w' ⟨rfl, rfl⟩
          go_wp2_with fail
          go_roundw
          case rel => exact ⟨k + 1, by omega, by omega, by go_num, M, HLW5.out, HG3.out⟩
          case measure => simp [intOf]; omega
        · have hle' : decide (usedOf L t + 1 ≤ s) = false := by simpa using hle
          cases d with
          | true =>
            have hT : tenI M (one kk) = t := by have := HG2.out; simpa using this.symm
            have hTT : (tenI M (one kk) == (t : Int)) = true := by simpa using hT
            clear hT
            go_wp2_with fail
            with_reducible refine (tenant_lw _ HLW5.out (one_small _)).mono ?_
            rintro e w' ⟨rfl, rfl⟩
            go_wp2_with fail
            go_roundw
            case rel => exact ⟨k + 1, by omega, by omega, by go_num, M, HLW5.out, HG3.out⟩
            case measure => simp [intOf]; omega
          | false =>
            have hT : ¬ tenI M (one kk) = t := by have := HG2.out; simpa using this.symm
            have hTT : (tenI M (one kk) == (t : Int)) = false := by simpa using hT
            clear hT
            go_wp2_with fail
            with_reducible refine (tenant_lw _ HLW5.out (one_small _)).mono ?_
            rintro e w' ⟨rfl, rfl⟩
            go_wp2_with fail
            go_roundw
            case rel => exact ⟨k + 1, by omega, by omega, by go_num, M, HLW5.out, HG3.out⟩
            case measure => simp [intOf]; omega
    · by_cases hkn : k < ln
      · go_wp2_with fail
        go_ret
        exact ⟨rfl, HLW.out.k.low⟩
      · go_wp2_with fail
        go_ret
        exact ⟨rfl, HLW.out.k.low⟩
end Go.Proofs.Ytigkhglgoabjaaa
