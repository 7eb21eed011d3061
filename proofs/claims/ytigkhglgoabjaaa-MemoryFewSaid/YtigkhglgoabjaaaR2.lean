/-
  MemoryShares: the walk.
-/
import Derived.Test.YtigkhglgoabjaaaR1
import Derived.StillTailTactics
namespace Go.Proofs.Ytigkhglgoabjaaa
open Go.RowKit Go.Shelf

/-- A Put takes of others only what is above their shares, and gives them nothing. -/
def ShOk (sh : List Int) (L M : List E) (t : Nat) (old : Int) : Prop := ∀ k, k < sh.length → k ≠ t → usedOf M k ≤ usedOf L k ∧ ((k : Int) ≠ old → usedOf M k < usedOf L k → sh.getD k 0 ≤ usedOf M k)

theorem put_shares {cap : Int} {sh : List Int} {L : List E} (hs : Sane cap sh L) {t : Nat} (key : ByteArray) {z : Int} (ht : t < sh.length) (hz : 1 ≤ z) : ShOk sh L (putI cap sh L t key z).2.2 t (tenI L key) := by
  intro k hk hkt
  rcases putI_spec hs key ht hz with ⟨T, M, e, hev, _⟩ | ⟨e, _⟩
  · rw [e]
    have hM : usedOf (M ++ [⟨key, t, z⟩]) k = usedOf M k := by
      rw [usedOf_append, usedOf_cons, if_neg (Ne.symm hkt)]; simp [usedOf]
    simp only
    rw [hM]
    have hwo : usedOf (woE L key) k ≤ usedOf L k ∧ ((k : Int) ≠ tenI L key → usedOf (woE L key) k = usedOf L k) := by
      unfold tenI
      cases ha : atKey L key with
      | none => rw [woE_none ha]; exact ⟨Int.le_refl _, fun _ => rfl⟩
      | some x =>
        obtain ⟨X, Y, e1, e2, e3⟩ := woE_some hs.keys ha
        have hxz := (hs.rng x (by rw [e1]; simp)).2
        rw [e2, usedOf_append]
        rw [e1, usedOf_append, usedOf_cons]
        simp only
        constructor
        · split <;> omega
        · intro hne
          rw [if_neg (by omega)]; omega
    have hp := usedOf_perm hev.perm k
    rw [usedOf_append] at hp
    have hT : 0 ≤ usedOf T k := usedOf_nonneg T k (fun x hx => (hs.rng x (woE_mem (hev.perm.mem_iff.2 (List.mem_append_left _ hx))).1).2)
    refine ⟨by omega, fun h1 h2 => ?_⟩
    rcases hev.share k hkt with h3 | h3
    · have := hwo.2 h1; omega
    · exact h3
  · rw [e]
    exact ⟨Int.le_refl _, fun _ h => by simp at h⟩

/-- The sum of the first uses. -/
def pre (sh : List Int) (M : List E) (j : Nat) : Int := ((usesOf sh M).take j).sum
theorem pre_succ (sh : List Int) (M : List E) (j : Nat) (h : j < sh.length) : pre sh M (j + 1) = pre sh M j + usedOf M j := by
  unfold pre
  rw [take_succ_get (usesOf_get sh M j h)]
  simp
theorem pre_all {cap : Int} {sh : List Int} {M : List E} (h : Sane cap sh M) : pre sh M sh.length = tot M := by
  unfold pre
  rw [List.take_of_length_le (by rw [usesOf_length]; omega), uses_sum sh M (fun x hx => (h.rng x hx).1)]
theorem used_bd {cap : Int} {sh : List Int} {M : List E} (h : Sane cap sh M) (j : Nat) : 0 ≤ usedOf M j ∧ usedOf M j ≤ 1000000 := by
  have a1 := usedOf_nonneg M j (fun x hx => (h.rng x hx).2)
  have a2 := usedOf_le_tot M j (fun x hx => (h.rng x hx).2)
  have := h.le
  have := h.cap
  omega
theorem pre_bd {cap : Int} {sh : List Int} {M : List E} (h : Sane cap sh M) (j : Nat) : 0 ≤ pre sh M j ∧ pre sh M j ≤ 1000000 * j := by
  induction j with
  | zero => simp [pre]
  | succ j ih =>
    by_cases hj : j < sh.length
    · rw [pre_succ sh M j hj]
      have := used_bd h j
      omega
    · have e : pre sh M (j + 1) = pre sh M j := by unfold pre; rw [List.take_of_length_le (by rw [usesOf_length]; omega), List.take_of_length_le (by rw [usesOf_length]; omega)]
      rw [e]; omega

def ShaR (w : World) (b p g cp : Nat) (cap : Int) (sh : List Int) (W : World) : Prop := ∃ L, LW w p cap sh L (.world b p g cp cap sh) W

theorem pick_back (c n : Int) (w : World) (h1 : -9223372036854775808 ≤ c) (h2 : c ≤ 9223372036854775807) (hn : 1 ≤ n) (hn2 : n ≤ 9223372036854775807) :
    Calls Try.prog 14 #[.int .i64 c, .int .i64 n] w fun e w' => e = .returned (.int .i64 (pk c n)) ∧ w' = w := (pick_any c n w h1 h2 hn hn2).mono fun _ _ ⟨a, b⟩ => ⟨a, b.symm⟩

theorem pick_lit (c n : Int) (t : Nat) (w : World) (h1 : -9223372036854775808 ≤ c) (h2 : c ≤ 9223372036854775807) (hn : 1 ≤ n) (hn2 : n ≤ 1000) (ht : pk c n = t) :
    Calls Try.prog 14 #[.int .i64 c, .int .i64 n] w fun e w' => e = .returned (.int .i64 (t : Int)) ∧ w = w' := by
  rw [← ht]
  exact pick_any c n w h1 h2 hn (by omega)
theorem pk_lit (c n : Int) (hn : 1 ≤ n) : ∃ t : Nat, pk c n = t ∧ (t : Int) < n := by
  have := pk_bd c n (by omega)
  exact ⟨(pk c n).toNat, by omega, by omega⟩

set_option maxRecDepth 100000 in
set_option maxHeartbeats 1000000 in
theorem shares_some (c : Int) (a : Option Addr) (n cp : Nat) (xs : List Int) (lb lo ln lc : Nat) (f : Nat → Nat → Int) (w : World) (h1 : -9223372036854775808 ≤ c) (h2 : c ≤ 9223372036854775807) (hn : xs.length = n) (hn2 : n ≤ 9223372036854775807) (hx : RowIn w a xs) (hw : ∀ x ∈ xs, -9223372036854775808 ≤ x ∧ x ≤ 9223372036854775807)
    (hl : ln ≤ 9223372036854775807) (hst : Steps w lb lo ln f) :
    Calls Try.prog 3 #[.int .i64 c, .slice a n cp, .slice (some ⟨lb, lo, none⟩) ln lc] w fun e w' => e = .returned (.bool true) ∧ Below w.heap.size w w' := by
  have HX := Lib.hid hx; clear hx
  have HN := Lib.hid hn; clear hn
  have HW := Lib.hid hw; clear hw
  have HST := Lib.hid hst; clear hst
  go_enter Try.func3, Try.ntmps3
  go_wp2_with fail
  with_reducible refine (sane_any _).mono ?_
  rintro e W1 ⟨rfl, k⟩
  have K1 := Lib.hid k
  clear k
  go_wp2_with fail
  with_reducible refine (begin_any c a n cp xs _ h1 h2 HN.out hn2 (HX.out.keep K1.out) HW.out).mono ?_
  rintro e W2 hb
  obtain ⟨b, p, g, cp', rfl, hlw⟩ := hb.lw
  clear hb
  have HL : Hid (ShaR w b p g cp' (capOf c) (sharesOf c xs) W2) := Lib.hid ⟨[], hlw.base K1.out⟩
  have HSO := Lib.hid (sharesOf_ok c xs)
  have HCB := Lib.hid (capOf_bd c)
  clear hlw
  generalize sharesOf c xs = sh at *
  generalize capOf c = cap at *
  clear HX HN HW
  have HWA : Hid (∀ W, (Side.world b p g cp' cap sh).Q W → WorldAt W b p g cp' cap sh) := Lib.hid (fun _ h => h)
  have HWA2 : Hid (∀ aw cw us, ∀ W, ((Side.world b p g cp' cap sh).and (.ints (.slice (some ⟨aw, 0, none⟩) sh.length cw) us)).Q W → WorldAt W b p g cp' cap sh) := Lib.hid (fun _ _ _ _ h => h.1)
  go_wp2_with fail
  go_loopw [10] (fun i wr => ∃ k : Nat, k ≤ ln ∧ k ≤ 60 ∧ i = .int .i64 k ∧ ShaR w b p g cp' cap sh wr) (fun i _ => 60 - (intOf i).toNat)
  case atStart => exact ⟨0, by omega, by omega, rfl, HL.out⟩
  case round =>
    obtain ⟨k, hk, hk6, rfl, L, hlw⟩ := hrel
    have HLW := Lib.hid hlw
    clear hlw
    by_cases hlt : k < ln ∧ k < 60
    · obtain ⟨hlt, hlt6⟩ := hlt
      have hc2 := HLW.out.k.cell (HST.out.cell k 2 hlt (by omega)) (fun h => h)
      go_wp2_with fail
      with_reducible refine (name_any _ _ (HST.out.lo k 2) (HST.out.hi k 2)).mono ?_
      rintro e W3 ⟨rfl, k3⟩
      have HLW3 := Lib.hid (HLW.out.keep k3)
      clear hc2 HLW k3
      have hkey : (nm (f k 2)).size ≤ maxLen := one_small _
      have HK := Lib.hid hkey
      clear hkey
      generalize nm (f k 2) = key at *
      go_wp2_with fail
      with_reducible refine (uses_lw b g cp' HLW3.out HWA.out).mono ?_
      rintro e W4 ⟨aw, cw, rfl, h, _⟩
      have HLW4 := Lib.hid h
      clear h HLW3
      have hw0 := HLW4.out.q.1.c0
      have hw2 := HLW4.out.q.1.c2
      have hc0 := HLW4.out.k.cell (HST.out.cell k 0 hlt (by omega)) (fun h => h)
      rw [Nat.add_zero] at hc0
      have hc1 := HLW4.out.k.cell (HST.out.cell k 1 hlt (by omega)) (fun h => h)
      go_wp2_with fail
      with_reducible refine (tenant_lw _ HLW4.out HK.out).mono ?_
      rintro e w' ⟨rfl, rfl⟩
      go_wp2_with fail
      obtain ⟨q, hq, hq8⟩ := pk_lit (f k 0) 8 (by omega)
      with_reducible refine (pick_lit (f k 0) 8 q _ (HST.out.lo k 0) (HST.out.hi k 0) (by omega) (by omega) hq).mono ?_
      rintro e w' ⟨rfl, rfl⟩
      clear hq
      go_wp2_with fail
      have hm1 := HSO.out.2.1
      have hm2 := HSO.out.2.2
      obtain ⟨t, ht, htm⟩ := pk_nat (f k 1) sh.length (by omega)
      have HT := Lib.hid ht
      clear ht
      go_quiet ((go_at_call 14; exact quiet_same (pick_nat _ _ _ _ (HST.out.lo k 1) (HST.out.hi k 1) (by omega) (by omega) HT.out)))
      have HLW5 := Lib.hid (HLW4.out.keep ((Keep.refl _ W4).drewN nq))
      clear HLW4 hc1 hc0 hw0 hw2
      generalize W4.drewN nq = W5 at *
      have hw0 := HLW5.out.q.1.c0
      have hc3 := HLW5.out.k.cell (HST.out.cell k 3 hlt (by omega)) (fun h => h)
      by_cases hq0 : q = 0
      · subst hq0
        go_wp2_with fail
        with_reducible refine (touch_lw _ HLW5.out HK.out).mono ?_
        rintro e W7 ⟨rfl, h⟩
        have HLW7 := Lib.hid h
        clear h HLW5 hw0 hc3
        generalize touI L key = M at *
        have HSH : Hid (1 < 0 → ShOk sh L M t (tenI L key)) := Lib.hid (fun h => by omega)
        go_wp2_with fail
        with_reducible refine (uses_lw b g cp' HLW7.out (HWA2.out _ _ _)).mono ?_
        rintro e W8 ⟨ai, ci, rfl, h, _⟩
        have HLW8 := Lib.hid h
        clear h HLW7
        go_wp2_with fail
        have HPB := Lib.hid (pre_bd HLW8.out.sane)
        go_loopw [17, 18] (fun s i W9 => ∃ j : Nat, j ≤ sh.length ∧ i = .int .i64 j ∧ s = .int .i64 (pre sh M j) ∧ LW w p cap sh M (((Side.world b p g cp' cap sh).and (.ints (.slice (some ⟨aw, 0, none⟩) sh.length cw) (usesOf sh L))).and (.ints (.slice (some ⟨ai, 0, none⟩) sh.length ci) (usesOf sh M))) W9) (fun _ i _ => sh.length - (intOf i).toNat)
        case atStart => exact ⟨0, by omega, rfl, rfl, HLW8.out⟩
        case round =>
          obtain ⟨j, hj, rfl, rfl, h⟩ := hrel
          have HLW9 := Lib.hid h
          clear h HLW8
          obtain ⟨hp0, hp1⟩ := HPB.out j
          by_cases hjl : j < sh.length
          · have hi9 := HLW9.out.q.2.at_ j _ (usesOf_get sh M j hjl)
            have hu9 := HLW9.out.q.1.2.at_ j _ (usesOf_get sh L j hjl)
            have hs9 := HLW9.out.q.1.1.sh j (sh.getD j 0) (by rw [List.getD_eq_getElem?_getD, List.getElem?_eq_getElem hjl]; rfl)
            have hw2 := HLW9.out.q.1.1.c2
            rw [Nat.zero_add] at hi9 hu9 hs9
            have HPS := Lib.hid (pre_succ sh M j hjl)
            obtain ⟨hub0, hub1⟩ := used_bd HLW9.out.sane j
            have HSJ := Lib.hid (fun h => HSH.out h j hjl)
            have HGM := Lib.hid (usesOf_get sh M j hjl)
            have HGL := Lib.hid (usesOf_get sh L j hjl)
            generalize usedOf M j = mj at *
            generalize usedOf L j = lj at *
            generalize sh.getD j 0 = sj at *
            go_wp2_with fail
            go_quiet (fail)
            have HLWa := Lib.hid (HLW9.out.keep ((Keep.refl _ _).drewN nq))
            clear hi9 hu9 hs9 hw2 HLW9
            generalize wr.drewN nq = Wa at *
            have HLW9 := HLWa
            clear HLWa
            go_wp2_with fail
            have hi9 := HLW9.out.q.2.at_ j _ HGM.out
            have hu9 := HLW9.out.q.1.2.at_ j _ HGL.out
            rw [Nat.zero_add] at hi9 hu9
            go_quiet (fail)
            have HLWb := Lib.hid (HLW9.out.keep ((Keep.refl _ _).drewN nq))
            go_wp2_with fail
            go_roundw
            case rel => exact ⟨j + 1, by omega, by go_num, by rw [HPS.out], HLWb.out⟩
            case measure => simp [intOf]; omega
          · obtain rfl : j = sh.length := by omega
            have hpe := pre_all HLW9.out.sane
            rw [hpe]
            clear hp0 hp1 hpe
            have hsn := HLW9.out.sane
            have hle := hsn.le
            have ht0 := tot_nonneg M (fun x hx => (hsn.rng x hx).2)
            have hcap := hsn.cap
            clear hsn
            have hd1 : decide (cap < tot M) = false := by simp; omega
            have hd2 : (cap - tot M != cap - tot M) = false := by simp
            have hw0 := HLW9.out.q.1.1.c0
            have hw1 := HLW9.out.q.1.1.c1
            go_wp2_with fail
            go_quiet ((go_at_call 18; exact quiet_same (free_lw (HLW9.out.keep ((Keep.refl _ _).drewN _)))))
            have HLWz := Lib.hid (HLW9.out.keep ((Keep.refl _ _).drewN nq))
            go_wp2_with fail
            go_roundw
            case rel => exact ⟨k + 1, by omega, by omega, by go_num, M, HLWz.out.left.left⟩
            case measure => simp [intOf]; omega
      · have hq0' : ((q : Int) == 0) = false := by simp; omega
        by_cases hq1 : q = 1
        · subst hq1
          go_wp2_with fail
          with_reducible refine (remove_lw _ HLW5.out HK.out).mono ?_
          rintro e W7 ⟨rfl, h⟩
          have HLW7 := Lib.hid h
          clear h HLW5 hw0 hc3
          generalize woE L key = M at *
          have HSH : Hid (1 < 1 → ShOk sh L M t (tenI L key)) := Lib.hid (fun h => by omega)
          go_wp2_with fail
          with_reducible refine (uses_lw b g cp' HLW7.out (HWA2.out _ _ _)).mono ?_
          rintro e W8 ⟨ai, ci, rfl, h, _⟩
          have HLW8 := Lib.hid h
          clear h HLW7
          go_wp2_with fail
          have HPB := Lib.hid (pre_bd HLW8.out.sane)
          go_loopw [17, 18] (fun s i W9 => ∃ j : Nat, j ≤ sh.length ∧ i = .int .i64 j ∧ s = .int .i64 (pre sh M j) ∧ LW w p cap sh M (((Side.world b p g cp' cap sh).and (.ints (.slice (some ⟨aw, 0, none⟩) sh.length cw) (usesOf sh L))).and (.ints (.slice (some ⟨ai, 0, none⟩) sh.length ci) (usesOf sh M))) W9) (fun _ i _ => sh.length - (intOf i).toNat)
          case atStart => exact ⟨0, by omega, rfl, rfl, HLW8.out⟩
          case round =>
            obtain ⟨j, hj, rfl, rfl, h⟩ := hrel
            have HLW9 := Lib.hid h
            clear h HLW8
            obtain ⟨hp0, hp1⟩ := HPB.out j
            by_cases hjl : j < sh.length
            · have hi9 := HLW9.out.q.2.at_ j _ (usesOf_get sh M j hjl)
              have hu9 := HLW9.out.q.1.2.at_ j _ (usesOf_get sh L j hjl)
              have hs9 := HLW9.out.q.1.1.sh j (sh.getD j 0) (by rw [List.getD_eq_getElem?_getD, List.getElem?_eq_getElem hjl]; rfl)
              have hw2 := HLW9.out.q.1.1.c2
              rw [Nat.zero_add] at hi9 hu9 hs9
              have HPS := Lib.hid (pre_succ sh M j hjl)
              obtain ⟨hub0, hub1⟩ := used_bd HLW9.out.sane j
              have HSJ := Lib.hid (fun h => HSH.out h j hjl)
              have HGM := Lib.hid (usesOf_get sh M j hjl)
              have HGL := Lib.hid (usesOf_get sh L j hjl)
              generalize usedOf M j = mj at *
              generalize usedOf L j = lj at *
              generalize sh.getD j 0 = sj at *
              go_wp2_with fail
              go_quiet (fail)
              have HLWa := Lib.hid (HLW9.out.keep ((Keep.refl _ _).drewN nq))
              clear hi9 hu9 hs9 hw2 HLW9
              generalize wr.drewN nq = Wa at *
              have HLW9 := HLWa
              clear HLWa
              go_wp2_with fail
              have hi9 := HLW9.out.q.2.at_ j _ HGM.out
              have hu9 := HLW9.out.q.1.2.at_ j _ HGL.out
              rw [Nat.zero_add] at hi9 hu9
              go_quiet (fail)
              have HLWb := Lib.hid (HLW9.out.keep ((Keep.refl _ _).drewN nq))
              go_wp2_with fail
              go_roundw
              case rel => exact ⟨j + 1, by omega, by go_num, by rw [HPS.out], HLWb.out⟩
              case measure => simp [intOf]; omega
            · obtain rfl : j = sh.length := by omega
              have hpe := pre_all HLW9.out.sane
              rw [hpe]
              clear hp0 hp1 hpe
              have hsn := HLW9.out.sane
              have hle := hsn.le
              have ht0 := tot_nonneg M (fun x hx => (hsn.rng x hx).2)
              have hcap := hsn.cap
              clear hsn
              have hd1 : decide (cap < tot M) = false := by simp; omega
              have hd2 : (cap - tot M != cap - tot M) = false := by simp
              have hw0 := HLW9.out.q.1.1.c0
              have hw1 := HLW9.out.q.1.1.c1
              go_wp2_with fail
              go_quiet ((go_at_call 18; exact quiet_same (free_lw (HLW9.out.keep ((Keep.refl _ _).drewN _)))))
              have HLWz := Lib.hid (HLW9.out.keep ((Keep.refl _ _).drewN nq))
              go_wp2_with fail
              go_roundw
              case rel => exact ⟨k + 1, by omega, by omega, by go_num, M, HLWz.out.left.left⟩
              case measure => simp [intOf]; omega
        · have hq1' : ((q : Int) == 1) = false := by simp; omega
          have hqq : 1 < q := by omega
          have hqd : decide (1 < (q : Int)) = true := by simp; omega
          go_wp2_with fail
          refine wp_region_still_tail 13 (by kernel_rfl) (by kernel_rfl) ?_
          simp only [List.take_succ_cons, List.take_zero, List.drop_succ_cons, List.drop_zero]
          have hpb := pk_bd (f k 3) 12 (by omega)
          iterate 11 still_step
          still_call (pick_back _ _ _ (HST.out.lo k 3) (HST.out.hi k 3) (by omega) (by omega))
          still_step
          refine wpStill_nil ?_
          change wpList _ _ _ _ _ W5.drew
          have HLW6 := Lib.hid (HLW5.out.keep (Keep.refl _ W5).drew)
          clear HLW5 hw0 hc3
          generalize W5.drew = W6 at *
          generalize pk (f k 3) 12 = z at *
          go_wp2_with fail
          with_reducible refine (put_lw _ _ _ HLW6.out HK.out (by omega)).mono ?_
          rintro e W7 ⟨a7, c7, rfl, h⟩
          have HSH : Hid (1 < q → ShOk sh L (putI cap sh L t key (1 + z)).2.2 t (tenI L key)) := Lib.hid (fun _ => put_shares HLW6.out.sane key htm (by omega))
          generalize putI cap sh L (t : Int) key (1 + z) = r at *
          obtain ⟨d, T, M⟩ := r
          simp only at HSH h ⊢
          have HLW7 := Lib.hid h.left
          clear h HLW6
          go_wp2_with fail
          with_reducible refine (uses_lw b g cp' HLW7.out (HWA2.out _ _ _)).mono ?_
          rintro e W8 ⟨ai, ci, rfl, h, _⟩
          have HLW8 := Lib.hid h
          clear h HLW7
          go_wp2_with fail
          have HPB := Lib.hid (pre_bd HLW8.out.sane)
          go_loopw [17, 18] (fun s i W9 => ∃ j : Nat, j ≤ sh.length ∧ i = .int .i64 j ∧ s = .int .i64 (pre sh M j) ∧ LW w p cap sh M (((Side.world b p g cp' cap sh).and (.ints (.slice (some ⟨aw, 0, none⟩) sh.length cw) (usesOf sh L))).and (.ints (.slice (some ⟨ai, 0, none⟩) sh.length ci) (usesOf sh M))) W9) (fun _ i _ => sh.length - (intOf i).toNat)
          case atStart => exact ⟨0, by omega, rfl, rfl, HLW8.out⟩
          case round =>
            obtain ⟨j, hj, rfl, rfl, h⟩ := hrel
            have HLW9 := Lib.hid h
            clear h HLW8
            obtain ⟨hp0, hp1⟩ := HPB.out j
            by_cases hjl : j < sh.length
            · have hi9 := HLW9.out.q.2.at_ j _ (usesOf_get sh M j hjl)
              have hu9 := HLW9.out.q.1.2.at_ j _ (usesOf_get sh L j hjl)
              have hs9 := HLW9.out.q.1.1.sh j (sh.getD j 0) (by rw [List.getD_eq_getElem?_getD, List.getElem?_eq_getElem hjl]; rfl)
              have hw2 := HLW9.out.q.1.1.c2
              rw [Nat.zero_add] at hi9 hu9 hs9
              have HPS := Lib.hid (pre_succ sh M j hjl)
              obtain ⟨hub0, hub1⟩ := used_bd HLW9.out.sane j
              have HSJ := Lib.hid (fun h => HSH.out h j hjl)
              have HGM := Lib.hid (usesOf_get sh M j hjl)
              have HGL := Lib.hid (usesOf_get sh L j hjl)
              generalize usedOf M j = mj at *
              generalize usedOf L j = lj at *
              generalize sh.getD j 0 = sj at *
              go_wp2_with fail
              by_cases hjt : j = t
              · subst hjt
                have hne : ((j : Int) != (j : Int)) = false := by simp
                go_quiet (fail)
                have HLWa := Lib.hid (HLW9.out.keep ((Keep.refl _ _).drewN nq))
                clear hi9 hu9 hs9 hw2 HLW9
                generalize wr.drewN nq = Wa at *
                have HLW9 := HLWa
                clear HLWa
                go_wp2_with fail
                have hi9 := HLW9.out.q.2.at_ j _ HGM.out
                have hu9 := HLW9.out.q.1.2.at_ j _ HGL.out
                rw [Nat.zero_add] at hi9 hu9
                go_quiet (fail)
                have HLWb := Lib.hid (HLW9.out.keep ((Keep.refl _ _).drewN nq))
                go_wp2_with fail
                go_roundw
                case rel => exact ⟨j + 1, by omega, by go_num, by rw [HPS.out], HLWb.out⟩
                case measure => simp [intOf]; omega
              · have hne : ((j : Int) != (t : Int)) = true := by simp; omega
                obtain ⟨hS1, hS2⟩ := HSJ.out hqq hjt
                have hgt : decide (lj < mj) = false := by simp; omega
                by_cases hjo : (j : Int) = tenI L key
                · have hno : ((j : Int) != tenI L key) = false := by simpa using hjo
                  have HJO := Lib.hid hjo
                  clear hjo hS2
                  go_quiet (fail)
                  have HLWa := Lib.hid (HLW9.out.keep ((Keep.refl _ _).drewN nq))
                  clear hi9 hu9 hs9 hw2 HLW9
                  generalize wr.drewN nq = Wa at *
                  have HLW9 := HLWa
                  clear HLWa
                  go_wp2_with fail
                  have hi9 := HLW9.out.q.2.at_ j _ HGM.out
                  have hu9 := HLW9.out.q.1.2.at_ j _ HGL.out
                  rw [Nat.zero_add] at hi9 hu9
                  go_quiet (fail)
                  have HLWb := Lib.hid (HLW9.out.keep ((Keep.refl _ _).drewN nq))
                  go_wp2_with fail
                  go_roundw
                  case rel => exact ⟨j + 1, by omega, by go_num, by rw [HPS.out], HLWb.out⟩
                  case measure => simp [intOf]; omega
                · have hno : ((j : Int) != tenI L key) = true := by simpa using hjo
                  by_cases hml : mj < lj
                  · have hml' : decide (mj < lj) = true := by simpa using hml
                    have hS3 := hS2 hjo hml
                    have hms : decide (mj < sj) = false := by simp; omega
                    clear hjo hS2
                    go_quiet (fail)
                    have HLWa := Lib.hid (HLW9.out.keep ((Keep.refl _ _).drewN nq))
                    clear hi9 hu9 hs9 hw2 HLW9
                    generalize wr.drewN nq = Wa at *
                    have HLW9 := HLWa
                    clear HLWa
                    go_wp2_with fail
                    have hi9 := HLW9.out.q.2.at_ j _ HGM.out
                    have hu9 := HLW9.out.q.1.2.at_ j _ HGL.out
                    rw [Nat.zero_add] at hi9 hu9
                    go_quiet (fail)
                    have HLWb := Lib.hid (HLW9.out.keep ((Keep.refl _ _).drewN nq))
                    go_wp2_with fail
                    go_roundw
                    case rel => exact ⟨j + 1, by omega, by go_num, by rw [HPS.out], HLWb.out⟩
                    case measure => simp [intOf]; omega
                  · have hml' : decide (mj < lj) = false := by simpa using hml
                    clear hjo hS2
                    go_quiet (fail)
                    have HLWa := Lib.hid (HLW9.out.keep ((Keep.refl _ _).drewN nq))
                    clear hi9 hu9 hs9 hw2 HLW9
                    generalize wr.drewN nq = Wa at *
                    have HLW9 := HLWa
                    clear HLWa
                    go_wp2_with fail
                    have hi9 := HLW9.out.q.2.at_ j _ HGM.out
                    have hu9 := HLW9.out.q.1.2.at_ j _ HGL.out
                    rw [Nat.zero_add] at hi9 hu9
                    go_quiet (fail)
                    have HLWb := Lib.hid (HLW9.out.keep ((Keep.refl _ _).drewN nq))
                    go_wp2_with fail
                    go_roundw
                    case rel => exact ⟨j + 1, by omega, by go_num, by rw [HPS.out], HLWb.out⟩
                    case measure => simp [intOf]; omega
            · obtain rfl : j = sh.length := by omega
              have hpe := pre_all HLW9.out.sane
              rw [hpe]
              clear hp0 hp1 hpe
              have hsn := HLW9.out.sane
              have hle := hsn.le
              have ht0 := tot_nonneg M (fun x hx => (hsn.rng x hx).2)
              have hcap := hsn.cap
              clear hsn
              have hd1 : decide (cap < tot M) = false := by simp; omega
              have hd2 : (cap - tot M != cap - tot M) = false := by simp
              have hw0 := HLW9.out.q.1.1.c0
              have hw1 := HLW9.out.q.1.1.c1
              go_wp2_with fail
              go_quiet ((go_at_call 18; exact quiet_same (free_lw (HLW9.out.keep ((Keep.refl _ _).drewN _)))))
              have HLWz := Lib.hid (HLW9.out.keep ((Keep.refl _ _).drewN nq))
              go_wp2_with fail
              go_roundw
              case rel => exact ⟨k + 1, by omega, by omega, by go_num, M, HLWz.out.left.left⟩
              case measure => simp [intOf]; omega
    · by_cases hkn : k < ln
      · go_wp2_with fail
        go_ret
        exact ⟨rfl, HLW.out.k.low⟩
      · go_wp2_with fail
        go_ret
        exact ⟨rfl, HLW.out.k.low⟩
end Go.Proofs.Ytigkhglgoabjaaa
